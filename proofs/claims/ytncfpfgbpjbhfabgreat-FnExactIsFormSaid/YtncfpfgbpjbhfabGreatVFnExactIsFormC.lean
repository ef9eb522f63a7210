/- Plain functions for the program's functions, and that calls come to them: printed by a program. No condition. -/
import Derived.Test.YtncfpfgbpjbhfabGreatVFnExactIsFormB
namespace Go.Proofs.YtncfpfgbpjbhfabGreat
set_option linter.unusedVariables false
set_option linter.unusedSimpArgs false
open Go Go.VL

def impl_loads_L1_head (v_t10 : (List TRat)) (v_t11 : Int) (v_t12 : Int) (row0 : (List (Option TRatio_))) : S := mkS [(4, .osl 0 0 0 row0.length), (10, .isl 3 (v_t10.map eTRat)), (11, .n .i64 v_t11), (12, .n .i64 v_t12)] [[Ob.mk 1 (row0.map (eO 3 eTRatio_)) .live]]

def impl_loads_L1_ex : (((List (Option TRatio_))) ⊕ (Unit)) → Exit
  | .inl _ => .exit 0
  | .inr _ => .ret

def impl_loads_L1_out (v_t10 : (List TRat)) (v_t11 : Int) : (((List (Option TRatio_))) ⊕ (Unit)) → S
  | .inl a => mkS [(4, .osl 0 0 0 a.length)] [[Ob.mk 1 (a.map (eO 3 eTRatio_)) .live]]
  | .inr a => mkS [(2, .nils), (3, .b false)] []

def impl_loads_L1_body (v_t10 : (List TRat)) (v_t11 : Int) (v_t12 : Int) (row0 : (List (Option TRatio_))) : Option ((Int × (List (Option TRatio_))) ⊕ (((List (Option TRatio_))) ⊕ (Unit))) :=
  if (decide (v_t12 < v_t11)) = true then
    if 0 ≤ v_t12 ∧ v_t12 < v_t10.length then
    v_t10[v_t12.toNat]? >>= fun x3 =>
    impl_load x3 >>= fun r5 =>
    if 0 ≤ v_t12 ∧ v_t12 < (row0.length : Nat) then
    if (0 + v_t12.toNat) < row0.length then
    (row0.set (0 + v_t12.toNat) r5)[(0 + v_t12.toNat)]? >>= fun x9 =>
    x9.elim
    (some (.inr (.inr ())))
    fun y12 =>
    some (.inl (w64 (v_t12 + (1 : Int)), row0.set (0 + v_t12.toNat) r5))
    else none
    else none
    else none
  else
    some (.inr (.inl row0))

def impl_loads_L1 (v_t10 : (List TRat)) (v_t11 : Int) (v_t12 : Int) (row0 : (List (Option TRatio_))) : Option (((List (Option TRatio_))) ⊕ (Unit)) := iter (fun w : Int × (List (Option TRatio_)) => impl_loads_L1_body v_t10 v_t11 w.1 w.2) (v_t12, row0)

theorem impl_loads_L1_body_ok (v_t10 : (List TRat)) (v_t11 : Int) (v_t12 : Int) (row0 : (List (Option TRatio_))) : Wp (impl_loads_L1_body v_t10 v_t11 v_t12 row0) (Sum.elim
    (fun w => VEx PP 29 0 (nodeAt (bodyOf PP 64) [1, 1, 0, 1, 0, 0]) .normal (impl_loads_L1_head v_t10 v_t11 v_t12 row0) (impl_loads_L1_head v_t10 v_t11 w.1 w.2))
    (fun r => VEx PP 29 0 (nodeAt (bodyOf PP 64) [1, 1, 0, 1, 0, 0]) (impl_loads_L1_ex r) (impl_loads_L1_head v_t10 v_t11 v_t12 row0) (impl_loads_L1_out v_t10 v_t11 r))) := by
  unfold impl_loads_L1_body
  exact .ite (fun h1 =>
      .grd fun h2 =>
       .bnd fun x3 h4 =>
       .bnd fun r5 h6 =>
       .grd fun h7 =>
       .grd fun h8 =>
       .bnd fun x9 h10 =>
       .opt (fun h11 =>
       .ret ((okC_sound hmix (tape := [.reg [nt], .br true, .reg [nt, nt, (.el (eTRat x3), true), nt, nt, nt], .reg [nt, nt, nt, (.call { ac := [ii], r := aO 3 eTRatio_ r5, sc := false }, true), nt, (.bd, true)], .reg [nt, nt, nt, (.el ((eO 3 eTRatio_) x9), true), (.re 25 (.ipo 3 none) .bd, true)], .br true, .reg [nt, nt], .rst [] [] [(2, ii), (3, ii)]]) (nr := 1) (by kernel_rfl) (.cons h1 (.cons ((h2).1) (.cons (lt_mapI (h2).2 : v_t12 < ((v_t10.map eTRat).length : Nat)) (.cons (map_get h4 : (v_t10.map eTRat)[v_t12.toNat]? = some (eTRat x3)) (.cons (impl_load_ok x3 r5 h6) (.cons ((h7).1) (.cons ((h7).2) (.cons (lt_map h8 : (0 + v_t12.toNat) < (row0.map (eO 3 eTRatio_)).length) (.cons (rfl : 1 = 1) (.cons ((h7).1) (.cons ((h7).2) (.cons (get_prf (set_prf (show (row0.map (eO 3 eTRatio_)) = (row0.map (eO 3 eTRatio_)) from rfl) (0 + v_t12.toNat) r5) h10) (.cons (aO_none h11 : aO 3 eTRatio_ x9 = .ipo 3 none) (.cons (rfl : true = true) .nil)))))))))))))) (mkS_free _ _) : VEx PP 29 0 (nodeAt (bodyOf PP 64) [1, 1, 0, 1, 0, 0]) (.ret) (impl_loads_L1_head v_t10 v_t11 v_t12 row0) (impl_loads_L1_out v_t10 v_t11 (.inr ())))))
       (fun y12 h11 =>
       .ret ((okC_sound hmix (tape := [.reg [nt], .br true, .reg [nt, nt, (.el (eTRat x3), true), nt, nt, nt], .reg [nt, nt, nt, (.call { ac := [ii], r := aO 3 eTRatio_ r5, sc := false }, true), nt, (.bd, true)], .reg [nt, nt, nt, (.el ((eO 3 eTRatio_) x9), true), (.re 25 (.ipo 3 (some (eTRatio_ y12))) .bd, true)], .br false, .reg [nt, nt], .rst [0] [.as [Ob.mk 1 ((row0.set (0 + v_t12.toNat) r5).map (eO 3 eTRatio_)) .live]] [(4, .c1 (.c0 (.len ((row0.set (0 + v_t12.toNat) r5).length)))), (10, ii), (11, ii), (12, ii)]]) (nr := 1) (by kernel_rfl) (.cons h1 (.cons ((h2).1) (.cons (lt_mapI (h2).2 : v_t12 < ((v_t10.map eTRat).length : Nat)) (.cons (map_get h4 : (v_t10.map eTRat)[v_t12.toNat]? = some (eTRat x3)) (.cons (impl_load_ok x3 r5 h6) (.cons ((h7).1) (.cons ((h7).2) (.cons (lt_map h8 : (0 + v_t12.toNat) < (row0.map (eO 3 eTRatio_)).length) (.cons (rfl : 1 = 1) (.cons ((h7).1) (.cons ((h7).2) (.cons (get_prf (set_prf (show (row0.map (eO 3 eTRatio_)) = (row0.map (eO 3 eTRatio_)) from rfl) (0 + v_t12.toNat) r5) h10) (.cons (aO_some h11 : aO 3 eTRatio_ x9 = .ipo 3 (some (eTRatio_ y12))) (.cons (rfl : false = false) (.cons (row_prf (set_prf (show (row0.map (eO 3 eTRatio_)) = (row0.map (eO 3 eTRatio_)) from rfl) (0 + v_t12.toNat) r5) : [Ob.mk 1 ((row0.map (eO 3 eTRatio_)).set (0 + v_t12.toNat) [aO 3 eTRatio_ r5]) .live] = [Ob.mk 1 ((row0.set (0 + v_t12.toNat) r5).map (eO 3 eTRatio_)) .live]) (.cons (pure_row (eO_pure (sz := 3) eTRatio__pure) (row0.set (0 + v_t12.toNat) r5) : PureRow [Ob.mk 1 ((row0.set (0 + v_t12.toNat) r5).map (eO 3 eTRatio_)) .live]) (.cons (len_set (show row0.length = row0.length from rfl) (0 + v_t12.toNat) r5) .nil))))))))))))))))) (mkS_free _ _) : VEx PP 29 0 (nodeAt (bodyOf PP 64) [1, 1, 0, 1, 0, 0]) .normal (impl_loads_L1_head v_t10 v_t11 v_t12 row0) (impl_loads_L1_head v_t10 v_t11 (w64 (v_t12 + (1 : Int))) (row0.set (0 + v_t12.toNat) r5))))))
      (fun h1 =>
      .ret ((okC_sound hmix (tape := [.reg [nt], .br false, .rst [0] [.pure] [(4, ii)]]) (nr := 1) (by kernel_rfl) (.cons h1 (.cons (pure_row (eO_pure (sz := 3) eTRatio__pure) row0 : PureRow [Ob.mk 1 (row0.map (eO 3 eTRatio_)) .live]) .nil)) (mkS_free _ _) : VEx PP 29 0 (nodeAt (bodyOf PP 64) [1, 1, 0, 1, 0, 0]) (.exit 0) (impl_loads_L1_head v_t10 v_t11 v_t12 row0) (impl_loads_L1_out v_t10 v_t11 (.inl row0)))))

theorem impl_loads_L1_ok (v_t10 : (List TRat)) (v_t11 : Int) (v_t12 : Int) (row0 : (List (Option TRatio_))) : ∀ r, impl_loads_L1 v_t10 v_t11 v_t12 row0 = some r → VLoop PP 29 0 (nodeAt (bodyOf PP 64) [1, 1, 0, 1, 0, 0]) (impl_loads_L1_ex r) (impl_loads_L1_head v_t10 v_t11 v_t12 row0) (impl_loads_L1_out v_t10 v_t11 r) := fun r h =>
  iter_ok (head := fun w : Int × (List (Option TRatio_)) => impl_loads_L1_head v_t10 v_t11 w.1 w.2) (ex := impl_loads_L1_ex) (out := impl_loads_L1_out v_t10 v_t11) (by intro r; unfold impl_loads_L1_ex; split <;> simp) (fun w => impl_loads_L1_body_ok v_t10 v_t11 w.1 w.2) (v_t12, row0) r h

def impl_loads (v_v : (List TRat)) : Option ((List (Option TRatio_)) × Bool) :=
  if 0 ≤ (len_ eTRat v_v) ∧ (8 : Int) * (len_ eTRat v_v) ≤ 281474976710656 ∧ (len_ eTRat v_v) < 9223372036854775808 then
  impl_loads_L1 v_v (len_ eTRat v_v) 0 (List.replicate (len_ eTRat v_v).toNat (none : (Option TRatio_)) : List (Option TRatio_)) >>= fun r2 =>
  match r2 with
  | .inl a4 => (some (a4, true))
  | .inr a4 => (some (([] : List (Option TRatio_)), false))
  else none

theorem impl_loads_ok (v_v : (List TRat)) : Wp (impl_loads v_v) (fun r => Con PP 64 [.isl 3 (v_v.map eTRat)] [] (.tup [.isl 1 (r.1.map (eO 3 eTRatio_)), .b r.2]) []) := by
  unfold impl_loads
  exact .grd fun h1 =>
    .bnd fun r2 h3 =>
    match r2, h3 with
    | .inl a4, h3 => (.ret (runF_con0 hmix (tape := [.reg [nt, nt], .reg [nt, nt, (.el [aO 3 eTRatio_ (none : (Option TRatio_))], true), nt], .reg [nt, nt, nt], .rst [4] [.as [Ob.mk 1 ((List.replicate (len_ eTRat v_v).toNat (none : (Option TRatio_)) : List (Option TRatio_)).map (eO 3 eTRatio_)) .live]] [(4, .c1 (.c0 (.len ((List.replicate (len_ eTRat v_v).toNat (none : (Option TRatio_)) : List (Option TRatio_)).length)))), (10, ii), (11, ii), (12, ii)], .sub (.exit 0) [(4, .osl 0 0 0 a4.length)] [[Ob.mk 1 (a4.map (eO 3 eTRatio_)) .live]], .reg [nt, nt, nt]]) (rr := .comp [.c0 (.sl (a4.map (eO 3 eTRatio_))), .c0 .id]) (by kernel_rfl) (.cons ((h1).1) (.cons (Int.le_refl (len_ eTRat v_v)) (.cons ((h1).2.1) (.cons ((h1).2.2) (.cons (row_prf (rep_prf (eO 3 eTRatio_) (len_ eTRat v_v).toNat (none : (Option TRatio_))) : [Ob.mk 1 (List.replicate (len_ eTRat v_v).toNat [aO 3 eTRatio_ (none : (Option TRatio_))]) .live] = [Ob.mk 1 ((List.replicate (len_ eTRat v_v).toNat (none : (Option TRatio_)) : List (Option TRatio_)).map (eO 3 eTRatio_)) .live]) (.cons (pure_row (eO_pure (sz := 3) eTRatio__pure) (List.replicate (len_ eTRat v_v).toNat (none : (Option TRatio_)) : List (Option TRatio_)) : PureRow [Ob.mk 1 ((List.replicate (len_ eTRat v_v).toNat (none : (Option TRatio_)) : List (Option TRatio_)).map (eO 3 eTRatio_)) .live]) (.cons (len_rep (len_ eTRat v_v).toNat ((none : (Option TRatio_)) : (Option TRatio_))) (.cons ((impl_loads_L1_ok v_v (len_ eTRat v_v) 0 (List.replicate (len_ eTRat v_v).toNat (none : (Option TRatio_)) : List (Option TRatio_)) (.inl a4) h3).vex) (.cons (snap_full (show (a4.map (eO 3 eTRatio_)) = (a4.map (eO 3 eTRatio_)) from rfl) (show a4.length = a4.length from rfl)) (.cons (fit_full (show (a4.map (eO 3 eTRatio_)) = (a4.map (eO 3 eTRatio_)) from rfl) (show a4.length = a4.length from rfl)) (.cons (pure_map (eO_pure (sz := 3) eTRatio__pure) a4) .nil)))))))))))))
    | .inr a4, h3 => (.ret (runF_con0 hmix (tape := [.reg [nt, nt], .reg [nt, nt, (.el [aO 3 eTRatio_ (none : (Option TRatio_))], true), nt], .reg [nt, nt, nt], .rst [4] [.as [Ob.mk 1 ((List.replicate (len_ eTRat v_v).toNat (none : (Option TRatio_)) : List (Option TRatio_)).map (eO 3 eTRatio_)) .live]] [(4, .c1 (.c0 (.len ((List.replicate (len_ eTRat v_v).toNat (none : (Option TRatio_)) : List (Option TRatio_)).length)))), (10, ii), (11, ii), (12, ii)], .sub (.ret) [(2, .nils), (3, .b false)] []]) (rr := .comp [.c0 (.nl 1), .c0 .id]) (by kernel_rfl) (.cons ((h1).1) (.cons (Int.le_refl (len_ eTRat v_v)) (.cons ((h1).2.1) (.cons ((h1).2.2) (.cons (row_prf (rep_prf (eO 3 eTRatio_) (len_ eTRat v_v).toNat (none : (Option TRatio_))) : [Ob.mk 1 (List.replicate (len_ eTRat v_v).toNat [aO 3 eTRatio_ (none : (Option TRatio_))]) .live] = [Ob.mk 1 ((List.replicate (len_ eTRat v_v).toNat (none : (Option TRatio_)) : List (Option TRatio_)).map (eO 3 eTRatio_)) .live]) (.cons (pure_row (eO_pure (sz := 3) eTRatio__pure) (List.replicate (len_ eTRat v_v).toNat (none : (Option TRatio_)) : List (Option TRatio_)) : PureRow [Ob.mk 1 ((List.replicate (len_ eTRat v_v).toNat (none : (Option TRatio_)) : List (Option TRatio_)).map (eO 3 eTRatio_)) .live]) (.cons (len_rep (len_ eTRat v_v).toNat ((none : (Option TRatio_)) : (Option TRatio_))) (.cons ((impl_loads_L1_ok v_v (len_ eTRat v_v) 0 (List.replicate (len_ eTRat v_v).toNat (none : (Option TRatio_)) : List (Option TRatio_)) (.inr a4) h3).vex) .nil))))))))))

def impl_densities (v_s : TStructure) (v_q : (List TRat)) : Option ((List (Option TRatio_)) × Bool) :=
  if ((len_ eTRat v_q) != (len_ eTMember v_s.fMembers)) = true then
    some (([] : List (Option TRatio_)), false)
  else
    impl_StructureOk v_s >>= fun r2 =>
    if r2 = true then
      impl_loads v_q >>= fun r5 =>
      some (r5.1, r5.2)
    else
      some (([] : List (Option TRatio_)), false)

theorem impl_densities_ok (v_s : TStructure) (v_q : (List TRat)) : Wp (impl_densities v_s v_q) (fun r => Con PP 31 [.ipt 2 [[.isl 4 (v_s.fJoints.map eTJoint), .isl 3 (v_s.fMembers.map eTMember)]] 0 0, .isl 3 (v_q.map eTRat)] [] (.tup [.isl 1 (r.1.map (eO 3 eTRatio_)), .b r.2]) []) := by
  unfold impl_densities
  exact .ite (fun h1 =>
    .ret (runF_con0 hmix (tape := [.reg [nt, nt], .reg [nt, nt, nt, nt, nt, nt, nt, nt, nt, nf, nf, nf, nf, nf, (.br true, true)], .br true, .reg [nt, nt]]) (rr := .comp [.c0 (.nl 1), .c0 .id]) (by kernel_rfl) (.cons h1 (.cons h1 (.cons h1 (.cons h1 (.cons h1 (.cons h1 (.cons (rfl : true = true) .nil)))))))))
    (fun h1 =>
    .bnd fun r2 h3 =>
     .ite (fun h4 =>
     .bnd fun r5 h6 =>
      .ret (runF_con0 hmix (tape := [.reg [nt, nt], .reg [nt, nt, nt, nt, nt, nt, nt, nt, nt, nt, nt, nt, (.call { ac := [ii], r := .b r2, sc := true }, true), nt, (.br false, true)], .br false, .reg [nt, (.call { ac := [ii], r := .tup [.isl 1 (r5.1.map (eO 3 eTRatio_)), .b r5.2], sc := false }, true), nt, nt, nt, nt]]) (rr := ii) (by kernel_rfl) (.cons h1 (.cons h1 (.cons h1 (.cons h1 (.cons (impl_StructureOk_ok v_s r2 h3) (.cons (Sc.b _ : Sc (.b r2)) (.cons h1 (.cons h1 (.cons (not_t h4) (.cons (impl_loads_ok v_q r5 h6) .nil))))))))))))
     (fun h4 =>
     .ret (runF_con0 hmix (tape := [.reg [nt, nt], .reg [nt, nt, nt, nt, nt, nt, nt, nt, nt, nt, nt, nt, (.call { ac := [ii], r := .b r2, sc := true }, true), nt, (.br false, true)], .br true, .reg [nt, nt]]) (rr := .comp [.c0 (.nl 1), .c0 .id]) (by kernel_rfl) (.cons h1 (.cons h1 (.cons h1 (.cons h1 (.cons (impl_StructureOk_ok v_s r2 h3) (.cons (Sc.b _ : Sc (.b r2)) (.cons h1 (.cons h1 (.cons (not_f h4) .nil))))))))))))

def impl_isForce (v_n : Int) : Option Bool :=
  if (decide ((-100 : Int) ≤ v_n)) = true then
    some (decide (v_n ≤ (100 : Int)))
  else
    some false

theorem impl_isForce_ok (v_n : Int) : Wp (impl_isForce v_n) (fun r => Con PP 67 [.n .i64 v_n] [] (.b r) []) := by
  unfold impl_isForce
  exact .ite (fun h1 =>
    .ret (runF_con0 hmix (tape := [.reg [nt], .reg [nt, nt, nt, nt, nt, (.br true, true), nt]]) (rr := ii) (by kernel_rfl) (.cons h1 (.cons h1 (.cons h1 .nil)))))
    (fun h1 =>
    .ret (runF_con0 hmix (tape := [.reg [nt], .reg [nt, nt, nt, nf, nf, (.br false, true), nt]]) (rr := ii) (by kernel_rfl) (.cons h1 (.cons h1 (.cons h1 .nil)))))

def impl_fitsLoad_1 (v_n : Int) : Option Bool :=
  impl_isForce v_n >>= fun r1 =>
  some (!r1)

theorem impl_fitsLoad_1_ok (v_n : Int) : Wp (impl_fitsLoad_1 v_n) (fun r => Con PP 66 [.n .i64 v_n] [] (.b r) []) := by
  unfold impl_fitsLoad_1
  exact .bnd fun r1 h2 =>
    .ret (runF_con0 hmix (tape := [.reg [nt], .reg [nt, (.call { ac := [ii], r := .b r1, sc := true }, true), nt, nt]]) (rr := ii) (by kernel_rfl) (.cons (impl_isForce_ok v_n r1 h2) (.cons (Sc.b _ : Sc (.b r1)) .nil)))

def s_IndexFunc_impl_fitsLoad_1_L1_head (v_s : (List Int)) (v_t7 : Int) (v_t8 : Int) : S := mkS [(0, .isl 1 (v_s.map eI)), (1, .fn 66 []), (7, .n .i64 v_t7), (8, .n .i64 v_t8)] []

def s_IndexFunc_impl_fitsLoad_1_L1_ex : ((Unit) ⊕ (Int)) → Exit
  | .inl _ => .exit 0
  | .inr _ => .ret

def s_IndexFunc_impl_fitsLoad_1_L1_out (v_s : (List Int)) (v_t7 : Int) : ((Unit) ⊕ (Int)) → S
  | .inl a => mkS [] []
  | .inr a => mkS [(4, .n .i64 a)] []

def s_IndexFunc_impl_fitsLoad_1_L1_body (v_s : (List Int)) (v_t7 : Int) (v_t8 : Int) : Option ((Int) ⊕ ((Unit) ⊕ (Int))) :=
  if (decide (v_t8 < v_t7)) = true then
    if 0 ≤ v_t8 ∧ v_t8 < v_s.length then
    v_s[v_t8.toNat]? >>= fun x3 =>
    impl_fitsLoad_1 x3 >>= fun r5 =>
    if r5 = true then
      some (.inr (.inr v_t8))
    else
      some (.inl (w64 (v_t8 + (1 : Int))))
    else none
  else
    some (.inr (.inl ()))

def s_IndexFunc_impl_fitsLoad_1_L1 (v_s : (List Int)) (v_t7 : Int) (v_t8 : Int) : Option ((Unit) ⊕ (Int)) := iter (fun w : Int => s_IndexFunc_impl_fitsLoad_1_L1_body v_s v_t7 w) v_t8

theorem s_IndexFunc_impl_fitsLoad_1_L1_body_ok (v_s : (List Int)) (v_t7 : Int) (v_t8 : Int) : Wp (s_IndexFunc_impl_fitsLoad_1_L1_body v_s v_t7 v_t8) (Sum.elim
    (fun w => VEx PP 19 0 (nodeAt (bodyOf PP 95) [1, 0, 1, 0, 0]) .normal (s_IndexFunc_impl_fitsLoad_1_L1_head v_s v_t7 v_t8) (s_IndexFunc_impl_fitsLoad_1_L1_head v_s v_t7 w))
    (fun r => VEx PP 19 0 (nodeAt (bodyOf PP 95) [1, 0, 1, 0, 0]) (s_IndexFunc_impl_fitsLoad_1_L1_ex r) (s_IndexFunc_impl_fitsLoad_1_L1_head v_s v_t7 v_t8) (s_IndexFunc_impl_fitsLoad_1_L1_out v_s v_t7 r))) := by
  unfold s_IndexFunc_impl_fitsLoad_1_L1_body
  exact .ite (fun h1 =>
      .grd fun h2 =>
       .bnd fun x3 h4 =>
       .bnd fun r5 h6 =>
       .ite (fun h7 =>
       .ret ((okC_sound hmix (tape := [.reg [nt], .br true, .reg [nt, nt], .reg [nt, nt, nt, nt, (.el (eI x3), true), (.call { ac := [ii], r := .b r5, sc := true }, true)], .br true, .reg [nt, nt], .rst [] [] [(4, ii)]]) (nr := 0) (by kernel_rfl) (.cons h1 (.cons ((h2).1) (.cons (lt_mapI (h2).2 : v_t8 < ((v_s.map eI).length : Nat)) (.cons (map_get h4 : (v_s.map eI)[v_t8.toNat]? = some (eI x3)) (.cons (impl_fitsLoad_1_ok x3 r5 h6) (.cons (Sc.b _ : Sc (.b r5)) (.cons h7 .nil))))))) (mkS_free _ _) : VEx PP 19 0 (nodeAt (bodyOf PP 95) [1, 0, 1, 0, 0]) (.ret) (s_IndexFunc_impl_fitsLoad_1_L1_head v_s v_t7 v_t8) (s_IndexFunc_impl_fitsLoad_1_L1_out v_s v_t7 (.inr v_t8)))))
       (fun h7 =>
       .ret ((okC_sound hmix (tape := [.reg [nt], .br true, .reg [nt, nt], .reg [nt, nt, nt, nt, (.el (eI x3), true), (.call { ac := [ii], r := .b r5, sc := true }, true)], .br false, .reg [nt, nt], .rst [] [] [(0, ii), (1, ii), (7, ii), (8, ii)]]) (nr := 0) (by kernel_rfl) (.cons h1 (.cons ((h2).1) (.cons (lt_mapI (h2).2 : v_t8 < ((v_s.map eI).length : Nat)) (.cons (map_get h4 : (v_s.map eI)[v_t8.toNat]? = some (eI x3)) (.cons (impl_fitsLoad_1_ok x3 r5 h6) (.cons (Sc.b _ : Sc (.b r5)) (.cons h7 .nil))))))) (mkS_free _ _) : VEx PP 19 0 (nodeAt (bodyOf PP 95) [1, 0, 1, 0, 0]) .normal (s_IndexFunc_impl_fitsLoad_1_L1_head v_s v_t7 v_t8) (s_IndexFunc_impl_fitsLoad_1_L1_head v_s v_t7 (w64 (v_t8 + (1 : Int))))))))
      (fun h1 =>
      .ret ((okC_sound hmix (tape := [.reg [nt], .br false, .rst [] [] []]) (nr := 0) (by kernel_rfl) (.cons h1 .nil) (mkS_free _ _) : VEx PP 19 0 (nodeAt (bodyOf PP 95) [1, 0, 1, 0, 0]) (.exit 0) (s_IndexFunc_impl_fitsLoad_1_L1_head v_s v_t7 v_t8) (s_IndexFunc_impl_fitsLoad_1_L1_out v_s v_t7 (.inl ())))))

theorem s_IndexFunc_impl_fitsLoad_1_L1_ok (v_s : (List Int)) (v_t7 : Int) (v_t8 : Int) : ∀ r, s_IndexFunc_impl_fitsLoad_1_L1 v_s v_t7 v_t8 = some r → VLoop PP 19 0 (nodeAt (bodyOf PP 95) [1, 0, 1, 0, 0]) (s_IndexFunc_impl_fitsLoad_1_L1_ex r) (s_IndexFunc_impl_fitsLoad_1_L1_head v_s v_t7 v_t8) (s_IndexFunc_impl_fitsLoad_1_L1_out v_s v_t7 r) := fun r h =>
  iter_ok (head := fun w : Int => s_IndexFunc_impl_fitsLoad_1_L1_head v_s v_t7 w) (ex := s_IndexFunc_impl_fitsLoad_1_L1_ex) (out := s_IndexFunc_impl_fitsLoad_1_L1_out v_s v_t7) (by intro r; unfold s_IndexFunc_impl_fitsLoad_1_L1_ex; split <;> simp) (fun w => s_IndexFunc_impl_fitsLoad_1_L1_body_ok v_s v_t7 w) v_t8 r h

def s_IndexFunc_impl_fitsLoad_1 (v_s : (List Int)) : Option Int :=
  s_IndexFunc_impl_fitsLoad_1_L1 v_s (len_ eI v_s) 0 >>= fun r1 =>
  match r1 with
  | .inl a3 => (some (-1))
  | .inr a3 => (some a3)

theorem s_IndexFunc_impl_fitsLoad_1_ok (v_s : (List Int)) : Wp (s_IndexFunc_impl_fitsLoad_1 v_s) (fun r => Con PP 95 [.isl 1 (v_s.map eI), .fn 66 []] [] (.n .i64 r) []) := by
  unfold s_IndexFunc_impl_fitsLoad_1
  exact .bnd fun r1 h2 =>
    match r1, h2 with
    | .inl a3, h2 => (.ret (runF_con0 hmix (tape := [.reg [nt], .reg [nt, nt, nt], .rst [] [] [(0, ii), (1, ii), (7, ii), (8, ii)], .sub (.exit 0) [] [], .reg [nt]]) (rr := ii) (by kernel_rfl) (.cons ((s_IndexFunc_impl_fitsLoad_1_L1_ok v_s (len_ eI v_s) 0 (.inl a3) h2).vex) .nil)))
    | .inr a3, h2 => (.ret (runF_con0 hmix (tape := [.reg [nt], .reg [nt, nt, nt], .rst [] [] [(0, ii), (1, ii), (7, ii), (8, ii)], .sub (.ret) [(4, .n .i64 a3)] []]) (rr := ii) (by kernel_rfl) (.cons ((s_IndexFunc_impl_fitsLoad_1_L1_ok v_s (len_ eI v_s) 0 (.inr a3) h2).vex) .nil)))

def s_ContainsFunc_impl_fitsLoad_1 (v_s : (List Int)) : Option Bool :=
  s_IndexFunc_impl_fitsLoad_1 v_s >>= fun r1 =>
  some (decide ((0 : Int) ≤ r1))

theorem s_ContainsFunc_impl_fitsLoad_1_ok (v_s : (List Int)) : Wp (s_ContainsFunc_impl_fitsLoad_1 v_s) (fun r => Con PP 65 [.isl 1 (v_s.map eI), .fn 66 []] [] (.b r) []) := by
  unfold s_ContainsFunc_impl_fitsLoad_1
  exact .bnd fun r1 h2 =>
    .ret (runF_con0 hmix (tape := [.reg [nt], .reg [nt, nt, (.call { ac := [ii, ii], r := .n .i64 r1, sc := true }, true), nt, nt]]) (rr := ii) (by kernel_rfl) (.cons (s_IndexFunc_impl_fitsLoad_1_ok v_s r1 h2) (.cons (Sc.n _ _ : Sc (.n .i64 r1)) .nil)))

def impl_fitsLoad (v_s : TStructure) (v_l : (List Int)) : Option Bool :=
  if ((len_ eI v_l) == (w64 ((2 : Int) * (len_ eTJoint v_s.fJoints)))) = true then
    s_ContainsFunc_impl_fitsLoad_1 v_l >>= fun r2 =>
    some (!r2)
  else
    some false

theorem impl_fitsLoad_ok (v_s : TStructure) (v_l : (List Int)) : Wp (impl_fitsLoad v_s v_l) (fun r => Con PP 32 [.ipt 2 [[.isl 4 (v_s.fJoints.map eTJoint), .isl 3 (v_s.fMembers.map eTMember)]] 0 0, .isl 1 (v_l.map eI)] [] (.b r) []) := by
  unfold impl_fitsLoad
  exact .ite (fun h1 =>
    .bnd fun r2 h3 =>
     .ret (runF_con0 hmix (tape := [.reg [nt], .reg [nt, nt, nt, nt, nt, nt, nt, nt, nt, nt, nt, (.call { ac := [ii, ii], r := .b r2, sc := true }, true), nt, (.br true, true), nt]]) (rr := ii) (by kernel_rfl) (.cons h1 (.cons h1 (.cons (s_ContainsFunc_impl_fitsLoad_1_ok v_l r2 h3) (.cons (Sc.b _ : Sc (.b r2)) (.cons h1 (.cons h1 .nil))))))))
    (fun h1 =>
    .ret (runF_con0 hmix (tape := [.reg [nt], .reg [nt, nt, nt, nt, nt, nt, nt, nt, nt, nt, nf, nf, nf, (.br false, true), nt]]) (rr := ii) (by kernel_rfl) (.cons h1 (.cons h1 (.cons h1 (.cons h1 .nil))))))

def impl_loadsOf (v_x : (List TRat)) (v_n : Int) : Option ((List (Option TRatio_)) × Bool) :=
  if ((len_ eTRat v_x) != v_n) = true then
    some (([] : List (Option TRatio_)), false)
  else
    impl_loads v_x >>= fun r2 =>
    some (r2.1, r2.2)

theorem impl_loadsOf_ok (v_x : (List TRat)) (v_n : Int) : Wp (impl_loadsOf v_x v_n) (fun r => Con PP 33 [.isl 3 (v_x.map eTRat), .n .i64 v_n] [] (.tup [.isl 1 (r.1.map (eO 3 eTRatio_)), .b r.2]) []) := by
  unfold impl_loadsOf
  exact .ite (fun h1 =>
    .ret (runF_con0 hmix (tape := [.reg [nt, nt], .reg [nt, nt, nt, nt], .br true, .reg [nt, nt]]) (rr := .comp [.c0 (.nl 1), .c0 .id]) (by kernel_rfl) (.cons h1 .nil)))
    (fun h1 =>
    .bnd fun r2 h3 =>
     .ret (runF_con0 hmix (tape := [.reg [nt, nt], .reg [nt, nt, nt, nt], .br false, .reg [nt, (.call { ac := [ii], r := .tup [.isl 1 (r2.1.map (eO 3 eTRatio_)), .b r2.2], sc := false }, true), nt, nt, nt, nt]]) (rr := ii) (by kernel_rfl) (.cons h1 (.cons (impl_loads_ok v_x r2 h3) .nil))))

def impl_Joint_place (v_j : TJoint) (v_axis : Int) : Option Int :=
  if (v_axis == (0 : Int)) = true then
    some v_j.fX
  else
    some v_j.fY

theorem impl_Joint_place_ok (v_j : TJoint) (v_axis : Int) : Wp (impl_Joint_place v_j v_axis) (fun r => Con PP 36 [.agg [.s v_j.fName, .n .i64 v_j.fX, .n .i64 v_j.fY, .b v_j.fFixed], .n .i64 v_axis] [] (.n .i64 r) []) := by
  unfold impl_Joint_place
  exact .ite (fun h1 =>
    .ret (runF_con0 hmix (tape := [.reg [nt, nt], .reg [nt, nt], .br true, .reg [nt, nt, nt]]) (rr := ii) (by kernel_rfl) (.cons h1 .nil)))
    (fun h1 =>
    .ret (runF_con0 hmix (tape := [.reg [nt, nt], .reg [nt, nt], .br false, .reg [nt, nt, nt]]) (rr := ii) (by kernel_rfl) (.cons h1 .nil)))

def impl_signed (v_neg : Bool) (v_mag : (List Int)) : Option TBigInt :=
  if v_neg = true then
    some (⟨(decide ((0 : Int) < (len_ eI v_mag))), v_mag⟩ : TBigInt)
  else
    some (⟨false, v_mag⟩ : TBigInt)

theorem impl_signed_ok (v_neg : Bool) (v_mag : (List Int)) : Wp (impl_signed v_neg v_mag) (fun r => Con PP 96 [.b v_neg, .isl 1 (v_mag.map eI)] [] (.agg [.b r.fNeg, .isl 1 (r.fMag.map eI)]) []) := by
  unfold impl_signed
  exact .ite (fun h1 =>
    .ret (runF_con0 hmix (tape := [.reg [nt], .reg [nt, nt, nt, nt, nt, (.br true, true), nt, nt, nt]]) (rr := ii) (by kernel_rfl) (.cons h1 (.cons h1 (.cons h1 (.cons h1 .nil))))))
    (fun h1 =>
    .ret (runF_con0 hmix (tape := [.reg [nt], .reg [nt, nt, nf, nf, nf, (.br false, true), nt, nt, nt]]) (rr := ii) (by kernel_rfl) (.cons h1 (.cons h1 (.cons h1 (.cons h1 .nil))))))

def impl_integer (v_n : Int) : Option TBigInt :=
  if (decide (v_n < (0 : Int))) = true then
    impl_limbsOf (IntKind.wrap .u64 ((IntKind.wrap .u64 (w64 (0 - (w64 (v_n + (1 : Int)))))) + (1 : Int))) >>= fun r2 =>
    impl_signed true r2 >>= fun r4 =>
    some r4
  else
    impl_limbsOf (IntKind.wrap .u64 v_n) >>= fun r2 =>
    impl_signed false r2 >>= fun r4 =>
    some r4

theorem impl_integer_ok (v_n : Int) : Wp (impl_integer v_n) (fun r => Con PP 70 [.n .i64 v_n] [] (.agg [.b r.fNeg, .isl 1 (r.fMag.map eI)]) []) := by
  unfold impl_integer
  exact .ite (fun h1 =>
    .bnd fun r2 h3 =>
     .bnd fun r4 h5 =>
     .ret (runF_con0 hmix (tape := [.reg [nt], .reg [nt, nt], .br true, .reg [nt, nt, nt, nt, nt, (.call { ac := [ii], r := .isl 1 (r2.map eI), sc := false }, true), (.call { ac := [ii, ii], r := .agg [.b r4.fNeg, .isl 1 (r4.fMag.map eI)], sc := false }, true), nt]]) (rr := ii) (by kernel_rfl) (.cons h1 (.cons (impl_limbsOf_ok (IntKind.wrap .u64 ((IntKind.wrap .u64 (w64 (0 - (w64 (v_n + (1 : Int)))))) + (1 : Int))) r2 h3) (.cons (impl_signed_ok true r2 r4 h5) .nil)))))
    (fun h1 =>
    .bnd fun r2 h3 =>
     .bnd fun r4 h5 =>
     .ret (runF_con0 hmix (tape := [.reg [nt], .reg [nt, nt], .br false, .reg [nt, nt, (.call { ac := [ii], r := .isl 1 (r2.map eI), sc := false }, true), (.call { ac := [ii, ii], r := .agg [.b r4.fNeg, .isl 1 (r4.fMag.map eI)], sc := false }, true), nt]]) (rr := ii) (by kernel_rfl) (.cons h1 (.cons (impl_limbsOf_ok (IntKind.wrap .u64 v_n) r2 h3) (.cons (impl_signed_ok false r2 r4 h5) .nil)))))

def impl_whole (v_n : Int) : Option (Option TRatio_) :=
  impl_integer v_n >>= fun r1 =>
  some (some (⟨r1, ([1] : List Int)⟩ : TRatio_))

theorem impl_whole_ok (v_n : Int) : Wp (impl_whole v_n) (fun r => Con PP 35 [.n .i64 v_n] [] (aO 3 eTRatio_ r) []) := by
  unfold impl_whole
  exact .bnd fun r1 h2 =>
    .ret (runF_con0 hmix (tape := [.reg [nt], .reg [nt, (.call { ac := [ii], r := .agg [.b r1.fNeg, .isl 1 (r1.fMag.map eI)], sc := false }, true), nt, nt, nt, nt]]) (rr := .c1 (.ptro [.id, .id, .sl (([1] : List Int).map eI)])) (by kernel_rfl) (.cons (impl_integer_ok v_n r1 h2) (.cons (snap_full (show [[.n .i64 (1 : Int)]] = (([1] : List Int)).map eI from rfl) (show 1 = ([1] : List Int).length from rfl)) (.cons (fit_full (show [[.n .i64 (1 : Int)]] = (([1] : List Int)).map eI from rfl) (show 1 = ([1] : List Int).length from rfl)) (.cons (pure_map eI_pure ([1] : List Int)) (.cons (pure_es1 (eTRatio__pure (⟨r1, ([1] : List Int)⟩ : TRatio_)) : PureEs [[.b r1.fNeg, .isl 1 (r1.fMag.map eI), .isl 1 (([1] : List Int).map eI)]]) .nil))))))

def impl_times_L2_head (v_b : (List Int)) (v_i : Int) (v_n : Int) (v_t26 : (List Int)) (v_t27 : Int) (v_t34 : Int) (v_carry : Int) (v_t35 : Int) (row0 : (List Int)) : S := mkS [(1, .isl 1 (v_b.map eI)), (5, .osl 0 0 0 row0.length), (6, .n .i64 v_i), (7, .n .i64 v_n), (8, .n .i64 v_carry), (26, .isl 1 (v_t26.map eI)), (27, .n .i64 v_t27), (28, .n .i64 v_i), (33, .isl 1 (v_b.map eI)), (34, .n .i64 v_t34), (35, .n .i64 v_t35)] [[Ob.mk 1 (row0.map eI) .live]]

def impl_times_L2_ex : (Int × (List Int)) → Exit
  | _ => .exit 2

def impl_times_L2_out (v_b : (List Int)) (v_i : Int) (v_n : Int) (v_t26 : (List Int)) (v_t27 : Int) (v_t34 : Int) : (Int × (List Int)) → S
  | a => mkS [(1, .isl 1 (v_b.map eI)), (5, .osl 0 0 0 a.2.length), (6, .n .i64 v_i), (8, .n .i64 a.1), (26, .isl 1 (v_t26.map eI)), (27, .n .i64 v_t27), (28, .n .i64 v_i)] [[Ob.mk 1 (a.2.map eI) .live]]

def impl_times_L2_body (v_b : (List Int)) (v_i : Int) (v_n : Int) (v_t26 : (List Int)) (v_t27 : Int) (v_t34 : Int) (v_carry : Int) (v_t35 : Int) (row0 : (List Int)) : Option ((Int × Int × (List Int)) ⊕ (Int × (List Int))) :=
  if (decide (v_t35 < v_t34)) = true then
    if 0 ≤ v_t35 ∧ v_t35 < v_b.length then
    v_b[v_t35.toNat]? >>= fun x3 =>
    if 0 ≤ (w64 (v_i + v_t35)) ∧ (w64 (v_i + v_t35)) < (row0.length : Nat) then
    row0[(0 + (w64 (v_i + v_t35)).toNat)]? >>= fun x6 =>
    if (0 + (w64 (v_i + v_t35)).toNat) < row0.length then
    some (.inl (w64 ((w64 ((w64 (x6 + (w64 (v_n * x3)))) + v_carry)).tdiv (1000000000 : Int)), w64 (v_t35 + (1 : Int)), row0.set (0 + (w64 (v_i + v_t35)).toNat) ((w64 ((w64 (x6 + (w64 (v_n * x3)))) + v_carry)).tmod (1000000000 : Int))))
    else none
    else none
    else none
  else
    some (.inr (v_carry, row0))

def impl_times_L2 (v_b : (List Int)) (v_i : Int) (v_n : Int) (v_t26 : (List Int)) (v_t27 : Int) (v_t34 : Int) (v_carry : Int) (v_t35 : Int) (row0 : (List Int)) : Option (Int × (List Int)) := iter (fun w : Int × Int × (List Int) => impl_times_L2_body v_b v_i v_n v_t26 v_t27 v_t34 w.1 w.2.1 w.2.2) (v_carry, v_t35, row0)

theorem impl_times_L2_body_ok (v_b : (List Int)) (v_i : Int) (v_n : Int) (v_t26 : (List Int)) (v_t27 : Int) (v_t34 : Int) (v_carry : Int) (v_t35 : Int) (row0 : (List Int)) : Wp (impl_times_L2_body v_b v_i v_n v_t26 v_t27 v_t34 v_carry v_t35 row0) (Sum.elim
    (fun w => VEx PP 72 0 (nodeAt (bodyOf PP 97) [1, 1, 1, 0, 1, 0, 0, 1, 1, 0, 0, 1, 1, 0, 1, 0, 0]) .normal (impl_times_L2_head v_b v_i v_n v_t26 v_t27 v_t34 v_carry v_t35 row0) (impl_times_L2_head v_b v_i v_n v_t26 v_t27 v_t34 w.1 w.2.1 w.2.2))
    (fun r => VEx PP 72 0 (nodeAt (bodyOf PP 97) [1, 1, 1, 0, 1, 0, 0, 1, 1, 0, 0, 1, 1, 0, 1, 0, 0]) (impl_times_L2_ex r) (impl_times_L2_head v_b v_i v_n v_t26 v_t27 v_t34 v_carry v_t35 row0) (impl_times_L2_out v_b v_i v_n v_t26 v_t27 v_t34 r))) := by
  unfold impl_times_L2_body
  exact .ite (fun h1 =>
      .grd fun h2 =>
       .bnd fun x3 h4 =>
       .grd fun h5 =>
       .bnd fun x6 h7 =>
       .grd fun h8 =>
       .ret ((okC_sound hmix (tape := [.reg [nt], .br true, .reg [nt, nt, (.el (eI x3), true), nt, nt], .reg [nt, nt, nt, nt, nt, (.el (eI x6), true), nt, nt, nt, nt, nt, nt, nt], .reg [nt, nt, nt, nt, nt, nt, nt, nt, nt, (.bd, true), nt], .reg [nt, nt], .rst [0] [.as [Ob.mk 1 ((row0.set (0 + (w64 (v_i + v_t35)).toNat) ((w64 ((w64 (x6 + (w64 (v_n * x3)))) + v_carry)).tmod (1000000000 : Int))).map eI) .live]] [(1, ii), (5, .c1 (.c0 (.len ((row0.set (0 + (w64 (v_i + v_t35)).toNat) ((w64 ((w64 (x6 + (w64 (v_n * x3)))) + v_carry)).tmod (1000000000 : Int))).length)))), (6, ii), (7, ii), (8, ii), (26, ii), (27, ii), (28, ii), (33, ii), (34, ii), (35, ii)]]) (nr := 1) (by kernel_rfl) (.cons h1 (.cons ((h2).1) (.cons (lt_mapI (h2).2 : v_t35 < ((v_b.map eI).length : Nat)) (.cons (map_get h4 : (v_b.map eI)[v_t35.toNat]? = some (eI x3)) (.cons ((h5).1) (.cons ((h5).2) (.cons (map_get h7 : (row0.map eI)[(0 + (w64 (v_i + v_t35)).toNat)]? = some (eI x6)) (.cons (by decide : (1000000000 : Int) ≠ 0) (.cons (by decide : (1000000000 : Int) ≠ 0) (.cons ((h5).1) (.cons ((h5).2) (.cons (lt_map h8 : (0 + (w64 (v_i + v_t35)).toNat) < (row0.map eI).length) (.cons (rfl : 1 = 1) (.cons (row_prf (set_prf (show (row0.map eI) = (row0.map eI) from rfl) (0 + (w64 (v_i + v_t35)).toNat) ((w64 ((w64 (x6 + (w64 (v_n * x3)))) + v_carry)).tmod (1000000000 : Int))) : [Ob.mk 1 ((row0.map eI).set (0 + (w64 (v_i + v_t35)).toNat) [.n .i64 ((w64 ((w64 (x6 + (w64 (v_n * x3)))) + v_carry)).tmod (1000000000 : Int))]) .live] = [Ob.mk 1 ((row0.set (0 + (w64 (v_i + v_t35)).toNat) ((w64 ((w64 (x6 + (w64 (v_n * x3)))) + v_carry)).tmod (1000000000 : Int))).map eI) .live]) (.cons (pure_row eI_pure (row0.set (0 + (w64 (v_i + v_t35)).toNat) ((w64 ((w64 (x6 + (w64 (v_n * x3)))) + v_carry)).tmod (1000000000 : Int))) : PureRow [Ob.mk 1 ((row0.set (0 + (w64 (v_i + v_t35)).toNat) ((w64 ((w64 (x6 + (w64 (v_n * x3)))) + v_carry)).tmod (1000000000 : Int))).map eI) .live]) (.cons (len_set (show row0.length = row0.length from rfl) (0 + (w64 (v_i + v_t35)).toNat) ((w64 ((w64 (x6 + (w64 (v_n * x3)))) + v_carry)).tmod (1000000000 : Int))) .nil)))))))))))))))) (mkS_free _ _) : VEx PP 72 0 (nodeAt (bodyOf PP 97) [1, 1, 1, 0, 1, 0, 0, 1, 1, 0, 0, 1, 1, 0, 1, 0, 0]) .normal (impl_times_L2_head v_b v_i v_n v_t26 v_t27 v_t34 v_carry v_t35 row0) (impl_times_L2_head v_b v_i v_n v_t26 v_t27 v_t34 (w64 ((w64 ((w64 (x6 + (w64 (v_n * x3)))) + v_carry)).tdiv (1000000000 : Int))) (w64 (v_t35 + (1 : Int))) (row0.set (0 + (w64 (v_i + v_t35)).toNat) ((w64 ((w64 (x6 + (w64 (v_n * x3)))) + v_carry)).tmod (1000000000 : Int)))))))
      (fun h1 =>
      .ret ((okC_sound hmix (tape := [.reg [nt], .br false, .rst [0] [.pure] [(1, ii), (5, ii), (6, ii), (8, ii), (26, ii), (27, ii), (28, ii)]]) (nr := 1) (by kernel_rfl) (.cons h1 (.cons (pure_row eI_pure row0 : PureRow [Ob.mk 1 (row0.map eI) .live]) .nil)) (mkS_free _ _) : VEx PP 72 0 (nodeAt (bodyOf PP 97) [1, 1, 1, 0, 1, 0, 0, 1, 1, 0, 0, 1, 1, 0, 1, 0, 0]) (.exit 2) (impl_times_L2_head v_b v_i v_n v_t26 v_t27 v_t34 v_carry v_t35 row0) (impl_times_L2_out v_b v_i v_n v_t26 v_t27 v_t34 (v_carry, row0)))))

theorem impl_times_L2_ok (v_b : (List Int)) (v_i : Int) (v_n : Int) (v_t26 : (List Int)) (v_t27 : Int) (v_t34 : Int) (v_carry : Int) (v_t35 : Int) (row0 : (List Int)) : ∀ r, impl_times_L2 v_b v_i v_n v_t26 v_t27 v_t34 v_carry v_t35 row0 = some r → VLoop PP 72 0 (nodeAt (bodyOf PP 97) [1, 1, 1, 0, 1, 0, 0, 1, 1, 0, 0, 1, 1, 0, 1, 0, 0]) (impl_times_L2_ex r) (impl_times_L2_head v_b v_i v_n v_t26 v_t27 v_t34 v_carry v_t35 row0) (impl_times_L2_out v_b v_i v_n v_t26 v_t27 v_t34 r) := fun r h =>
  iter_ok (head := fun w : Int × Int × (List Int) => impl_times_L2_head v_b v_i v_n v_t26 v_t27 v_t34 w.1 w.2.1 w.2.2) (ex := impl_times_L2_ex) (out := impl_times_L2_out v_b v_i v_n v_t26 v_t27 v_t34) (by intro r; unfold impl_times_L2_ex; split <;> simp) (fun w => impl_times_L2_body_ok v_b v_i v_n v_t26 v_t27 v_t34 w.1 w.2.1 w.2.2) (v_carry, v_t35, row0) r h

def impl_times_L3_head (v_b : (List Int)) (v_t26 : (List Int)) (v_t27 : Int) (v_t28 : Int) (row0 : (List Int)) : S := mkS [(1, .isl 1 (v_b.map eI)), (5, .osl 0 0 0 row0.length), (26, .isl 1 (v_t26.map eI)), (27, .n .i64 v_t27), (28, .n .i64 v_t28)] [[Ob.mk 1 (row0.map eI) .live]]

def impl_times_L3_ex : (List Int) → Exit
  | _ => .exit 0

def impl_times_L3_out (v_b : (List Int)) (v_t26 : (List Int)) (v_t27 : Int) : (List Int) → S
  | a => mkS [(5, .osl 0 0 0 a.length)] [[Ob.mk 1 (a.map eI) .live]]

def impl_times_L3_body (v_b : (List Int)) (v_t26 : (List Int)) (v_t27 : Int) (v_t28 : Int) (row0 : (List Int)) : Option ((Int × (List Int)) ⊕ ((List Int))) :=
  if (decide (v_t28 < v_t27)) = true then
    if 0 ≤ v_t28 ∧ v_t28 < v_t26.length then
    v_t26[v_t28.toNat]? >>= fun x3 =>
    impl_times_L2 v_b v_t28 x3 v_t26 v_t27 (len_ eI v_b) 0 0 row0 >>= fun r5 =>
    if 0 ≤ (w64 (v_t28 + (len_ eI v_b))) ∧ (w64 (v_t28 + (len_ eI v_b))) < (r5.2.length : Nat) then
    if (0 + (w64 (v_t28 + (len_ eI v_b))).toNat) < r5.2.length then
    some (.inl (w64 (v_t28 + (1 : Int)), r5.2.set (0 + (w64 (v_t28 + (len_ eI v_b))).toNat) r5.1))
    else none
    else none
    else none
  else
    some (.inr row0)

def impl_times_L3 (v_b : (List Int)) (v_t26 : (List Int)) (v_t27 : Int) (v_t28 : Int) (row0 : (List Int)) : Option ((List Int)) := iter (fun w : Int × (List Int) => impl_times_L3_body v_b v_t26 v_t27 w.1 w.2) (v_t28, row0)

theorem impl_times_L3_body_ok (v_b : (List Int)) (v_t26 : (List Int)) (v_t27 : Int) (v_t28 : Int) (row0 : (List Int)) : Wp (impl_times_L3_body v_b v_t26 v_t27 v_t28 row0) (Sum.elim
    (fun w => VEx PP 72 0 (nodeAt (bodyOf PP 97) [1, 1, 1, 0, 1, 0, 0]) .normal (impl_times_L3_head v_b v_t26 v_t27 v_t28 row0) (impl_times_L3_head v_b v_t26 v_t27 w.1 w.2))
    (fun r => VEx PP 72 0 (nodeAt (bodyOf PP 97) [1, 1, 1, 0, 1, 0, 0]) (impl_times_L3_ex r) (impl_times_L3_head v_b v_t26 v_t27 v_t28 row0) (impl_times_L3_out v_b v_t26 v_t27 r))) := by
  unfold impl_times_L3_body
  exact .ite (fun h1 =>
      .grd fun h2 =>
       .bnd fun x3 h4 =>
       .bnd fun r5 h6 =>
       .grd fun h7 =>
       .grd fun h8 =>
       .ret ((okC_sound hmix (tape := [.reg [nt], .br true, .reg [nt, nt, (.el (eI x3), true), nt, nt], .reg [nt], .reg [nt, nt, nt], .rst [0] [.pure] [(1, ii), (5, ii), (6, ii), (7, ii), (8, ii), (26, ii), (27, ii), (28, ii), (33, ii), (34, ii), (35, ii)], .sub (.exit 2) [(1, .isl 1 (v_b.map eI)), (5, .osl 0 0 0 r5.2.length), (6, .n .i64 v_t28), (8, .n .i64 r5.1), (26, .isl 1 (v_t26.map eI)), (27, .n .i64 v_t27), (28, .n .i64 v_t28)] [[Ob.mk 1 (r5.2.map eI) .live]], .reg [nt, nt, nt, nt, nt, nt, nt, (.bd, true)], .reg [nt, nt], .rst [0] [.as [Ob.mk 1 ((r5.2.set (0 + (w64 (v_t28 + (len_ eI v_b))).toNat) r5.1).map eI) .live]] [(1, ii), (5, .c1 (.c0 (.len ((r5.2.set (0 + (w64 (v_t28 + (len_ eI v_b))).toNat) r5.1).length)))), (26, ii), (27, ii), (28, ii)]]) (nr := 1) (by kernel_rfl) (.cons h1 (.cons ((h2).1) (.cons (lt_mapI (h2).2 : v_t28 < ((v_t26.map eI).length : Nat)) (.cons (map_get h4 : (v_t26.map eI)[v_t28.toNat]? = some (eI x3)) (.cons (pure_row eI_pure row0 : PureRow [Ob.mk 1 (row0.map eI) .live]) (.cons ((impl_times_L2_ok v_b v_t28 x3 v_t26 v_t27 (len_ eI v_b) 0 0 row0 r5 h6).vex) (.cons ((h7).1) (.cons ((h7).2) (.cons (lt_map h8 : (0 + (w64 (v_t28 + (len_ eI v_b))).toNat) < (r5.2.map eI).length) (.cons (rfl : 1 = 1) (.cons (row_prf (set_prf (show (r5.2.map eI) = (r5.2.map eI) from rfl) (0 + (w64 (v_t28 + (len_ eI v_b))).toNat) r5.1) : [Ob.mk 1 ((r5.2.map eI).set (0 + (w64 (v_t28 + (len_ eI v_b))).toNat) [.n .i64 r5.1]) .live] = [Ob.mk 1 ((r5.2.set (0 + (w64 (v_t28 + (len_ eI v_b))).toNat) r5.1).map eI) .live]) (.cons (pure_row eI_pure (r5.2.set (0 + (w64 (v_t28 + (len_ eI v_b))).toNat) r5.1) : PureRow [Ob.mk 1 ((r5.2.set (0 + (w64 (v_t28 + (len_ eI v_b))).toNat) r5.1).map eI) .live]) (.cons (len_set (show r5.2.length = r5.2.length from rfl) (0 + (w64 (v_t28 + (len_ eI v_b))).toNat) r5.1) .nil))))))))))))) (mkS_free _ _) : VEx PP 72 0 (nodeAt (bodyOf PP 97) [1, 1, 1, 0, 1, 0, 0]) .normal (impl_times_L3_head v_b v_t26 v_t27 v_t28 row0) (impl_times_L3_head v_b v_t26 v_t27 (w64 (v_t28 + (1 : Int))) (r5.2.set (0 + (w64 (v_t28 + (len_ eI v_b))).toNat) r5.1)))))
      (fun h1 =>
      .ret ((okC_sound hmix (tape := [.reg [nt], .br false, .rst [0] [.pure] [(5, ii)]]) (nr := 1) (by kernel_rfl) (.cons h1 (.cons (pure_row eI_pure row0 : PureRow [Ob.mk 1 (row0.map eI) .live]) .nil)) (mkS_free _ _) : VEx PP 72 0 (nodeAt (bodyOf PP 97) [1, 1, 1, 0, 1, 0, 0]) (.exit 0) (impl_times_L3_head v_b v_t26 v_t27 v_t28 row0) (impl_times_L3_out v_b v_t26 v_t27 row0))))

theorem impl_times_L3_ok (v_b : (List Int)) (v_t26 : (List Int)) (v_t27 : Int) (v_t28 : Int) (row0 : (List Int)) : ∀ r, impl_times_L3 v_b v_t26 v_t27 v_t28 row0 = some r → VLoop PP 72 0 (nodeAt (bodyOf PP 97) [1, 1, 1, 0, 1, 0, 0]) (impl_times_L3_ex r) (impl_times_L3_head v_b v_t26 v_t27 v_t28 row0) (impl_times_L3_out v_b v_t26 v_t27 r) := fun r h =>
  iter_ok (head := fun w : Int × (List Int) => impl_times_L3_head v_b v_t26 v_t27 w.1 w.2) (ex := impl_times_L3_ex) (out := impl_times_L3_out v_b v_t26 v_t27) (by intro r; unfold impl_times_L3_ex; split <;> simp) (fun w => impl_times_L3_body_ok v_b v_t26 v_t27 w.1 w.2) (v_t28, row0) r h

def impl_times (v_a : (List Int)) (v_b : (List Int)) : Option (List Int) :=
  if ((len_ eI v_a) == (0 : Int)) = true then
    some ([] : List Int)
  else
    if ((len_ eI v_b) == (0 : Int)) = true then
      some ([] : List Int)
    else
      if 0 ≤ (w64 ((len_ eI v_a) + (len_ eI v_b))) ∧ (8 : Int) * (w64 ((len_ eI v_a) + (len_ eI v_b))) ≤ 281474976710656 ∧ (w64 ((len_ eI v_a) + (len_ eI v_b))) < 9223372036854775808 then
      impl_times_L3 v_b v_a (len_ eI v_a) 0 (List.replicate (w64 ((len_ eI v_a) + (len_ eI v_b))).toNat 0 : List Int) >>= fun r4 =>
      impl_trim r4 >>= fun r6 =>
      some r6
      else none

theorem impl_times_ok (v_a : (List Int)) (v_b : (List Int)) : Wp (impl_times v_a v_b) (fun r => Con PP 97 [.isl 1 (v_a.map eI), .isl 1 (v_b.map eI)] [] (.isl 1 (r.map eI)) []) := by
  unfold impl_times
  exact .ite (fun h1 =>
    .ret (runF_con0 hmix (tape := [.reg [nt], .reg [nt, nt, nt, nt, nf, nf, nf, (.br true, true)], .br true, .reg [nt]]) (rr := .c1 (.c0 (.nl 1))) (by kernel_rfl) (.cons h1 (.cons h1 (.cons h1 (.cons h1 (.cons (rfl : true = true) .nil)))))))
    (fun h1 =>
    .ite (fun h2 =>
     .ret (runF_con0 hmix (tape := [.reg [nt], .reg [nt, nt, nt, nt, nt, nt, nt, (.br false, true)], .br true, .reg [nt]]) (rr := .c1 (.c0 (.nl 1))) (by kernel_rfl) (.cons h1 (.cons h1 (.cons h1 (.cons h1 (.cons h2 .nil)))))))
     (fun h2 =>
     .grd fun h3 =>
      .bnd fun r4 h5 =>
      .bnd fun r6 h7 =>
      .ret (runF_con0 hmix (tape := [.reg [nt], .reg [nt, nt, nt, nt, nt, nt, nt, (.br false, true)], .br false, .reg [nt, nt, nt, nt, nt, nt, nt], .reg [nt, nt, nt], .rst [14] [.as [Ob.mk 1 ((List.replicate (w64 ((len_ eI v_a) + (len_ eI v_b))).toNat 0 : List Int).map eI) .live]] [(1, ii), (5, .c1 (.c0 (.len ((List.replicate (w64 ((len_ eI v_a) + (len_ eI v_b))).toNat 0 : List Int).length)))), (26, ii), (27, ii), (28, ii)], .sub (.exit 0) [(5, .osl 0 0 0 r4.length)] [[Ob.mk 1 (r4.map eI) .live]], .frz 0, .reg [nt, (.call { ac := [.c1 (.c0 (.sl (r4.map eI)))], rds := [0], r := .isl 1 (r6.map eI), sc := false }, true), nt]]) (rr := ii) (by kernel_rfl) (.cons h1 (.cons h1 (.cons h1 (.cons h1 (.cons h2 (.cons ((h3).1) (.cons (Int.le_refl (w64 ((len_ eI v_a) + (len_ eI v_b)))) (.cons ((h3).2.1) (.cons ((h3).2.2) (.cons (row_prf (rep_prf eI (w64 ((len_ eI v_a) + (len_ eI v_b))).toNat 0) : [Ob.mk 1 (List.replicate (w64 ((len_ eI v_a) + (len_ eI v_b))).toNat [.n .i64 (0 : Int)]) .live] = [Ob.mk 1 ((List.replicate (w64 ((len_ eI v_a) + (len_ eI v_b))).toNat 0 : List Int).map eI) .live]) (.cons (pure_row eI_pure (List.replicate (w64 ((len_ eI v_a) + (len_ eI v_b))).toNat 0 : List Int) : PureRow [Ob.mk 1 ((List.replicate (w64 ((len_ eI v_a) + (len_ eI v_b))).toNat 0 : List Int).map eI) .live]) (.cons (len_rep (w64 ((len_ eI v_a) + (len_ eI v_b))).toNat (0 : Int)) (.cons ((impl_times_L3_ok v_b v_a (len_ eI v_a) 0 (List.replicate (w64 ((len_ eI v_a) + (len_ eI v_b))).toNat 0 : List Int) r4 h5).vex) (.cons (snap_full (show (r4.map eI) = (r4.map eI) from rfl) (show r4.length = r4.length from rfl)) (.cons (fit_full (show (r4.map eI) = (r4.map eI) from rfl) (show r4.length = r4.length from rfl)) (.cons (pure_map eI_pure r4) (.cons (impl_trim_ok r4 r6 h7) .nil))))))))))))))))))))

def impl_ratio_scaled (v_x : (Option TRatio_)) (v_by : (List Int)) : Option TBigInt :=
  v_x >>= fun y1 =>
  impl_times y1.gNum.fMag v_by >>= fun r3 =>
  impl_signed y1.gNum.fNeg r3 >>= fun r5 =>
  some r5

theorem impl_ratio_scaled_ok (v_x : (Option TRatio_)) (v_by : (List Int)) : Wp (impl_ratio_scaled v_x v_by) (fun r => Con PP 68 [aO 3 eTRatio_ v_x, .isl 1 (v_by.map eI)] [] (.agg [.b r.fNeg, .isl 1 (r.fMag.map eI)]) []) := by
  unfold impl_ratio_scaled
  exact .bnd fun y1 h2 =>
    .bnd fun r3 h4 =>
    .bnd fun r5 h6 =>
    .ret (runF_con0 hmix (tape := [.reg [nt], .reg [nt, (.re 5 (.ipo 3 (some (eTRatio_ y1))) .bd, true), nt, nt, nt, nt, (.re 10 (.ipo 3 (some (eTRatio_ y1))) .bd, true), nt, nt, nt, nt, (.call { ac := [ii, ii], r := .isl 1 (r3.map eI), sc := false }, true), (.call { ac := [ii, ii], r := .agg [.b r5.fNeg, .isl 1 (r5.fMag.map eI)], sc := false }, true), nt]]) (rr := ii) (by kernel_rfl) (.cons (aO_some h2 : aO 3 eTRatio_ v_x = .ipo 3 (some (eTRatio_ y1))) (.cons (aO_some h2 : aO 3 eTRatio_ v_x = .ipo 3 (some (eTRatio_ y1))) (.cons (impl_times_ok y1.gNum.fMag v_by r3 h4) (.cons (impl_signed_ok y1.gNum.fNeg r3 r5 h6) .nil)))))

def impl_BigInt_compare (v_x : TBigInt) (v_y : TBigInt) : Option Int :=
  if (v_x.fNeg == v_y.fNeg) = true then
    if v_x.fNeg = true then
      impl_compare v_y.fMag v_x.fMag >>= fun r3 =>
      some r3
    else
      impl_compare v_x.fMag v_y.fMag >>= fun r3 =>
      some r3
  else
    if v_x.fNeg = true then
      some (-1)
    else
      some 1

theorem impl_BigInt_compare_ok (v_x : TBigInt) (v_y : TBigInt) : Wp (impl_BigInt_compare v_x v_y) (fun r => Con PP 69 [.agg [.b v_x.fNeg, .isl 1 (v_x.fMag.map eI)], .agg [.b v_y.fNeg, .isl 1 (v_y.fMag.map eI)]] [] (.n .i64 r) []) := by
  unfold impl_BigInt_compare
  exact .ite (fun h1 =>
    .ite (fun h2 =>
     .bnd fun r3 h4 =>
      .ret (runF_con0 hmix (tape := [.reg [nt, nt, nt], .reg [nt, nt, nt, nt, nt, nt, nf, nf, (.br false, true), nt], .br false, .reg [nt, nt, nt, nt, nt, nt], .br false, .reg [nt, nt, nt], .br true, .reg [nt, nt, nt, nt, (.call { ac := [ii, ii], r := .n .i64 r3, sc := true }, true), nt]]) (rr := ii) (by kernel_rfl) (.cons (not_t h1) (.cons (not_t h1) (.cons (not_t h1) (.cons (rfl : false = false) (.cons (not_t h1) (.cons h2 (.cons (impl_compare_ok v_y.fMag v_x.fMag r3 h4) (.cons (Sc.n _ _ : Sc (.n .i64 r3)) .nil))))))))))
     (fun h2 =>
     .bnd fun r3 h4 =>
      .ret (runF_con0 hmix (tape := [.reg [nt, nt, nt], .reg [nt, nt, nt, nt, nt, nt, nf, nf, (.br false, true), nt], .br false, .reg [nt, nt, nt, nt, nt, nt], .br false, .reg [nt, nt, nt], .br false, .reg [nt, nt, nt, nt, (.call { ac := [ii, ii], r := .n .i64 r3, sc := true }, true), nt]]) (rr := ii) (by kernel_rfl) (.cons (not_t h1) (.cons (not_t h1) (.cons (not_t h1) (.cons (rfl : false = false) (.cons (not_t h1) (.cons h2 (.cons (impl_compare_ok v_x.fMag v_y.fMag r3 h4) (.cons (Sc.n _ _ : Sc (.n .i64 r3)) .nil)))))))))))
    (fun h1 =>
    .ite (fun h2 =>
     .ret (runF_con0 hmix (tape := [.reg [nt, nt, nt], .reg [nt, nt, nt, nt, nt, nt, nt, nt, (.br true, true), nt], .br true, .reg [nt]]) (rr := ii) (by kernel_rfl) (.cons (not_f h1) (.cons (not_f h1) (.cons (not_f h1) (.cons h2 .nil))))))
     (fun h2 =>
     .ret (runF_con0 hmix (tape := [.reg [nt, nt, nt], .reg [nt, nt, nt, nt, nt, nt, nt, nt, (.br true, true), nt], .br false, .reg [nt, nt, nt, nt, nt, nt], .br true, .reg [nt]]) (rr := ii) (by kernel_rfl) (.cons (not_f h1) (.cons (not_f h1) (.cons (not_f h1) (.cons h2 (.cons (not_f h1) .nil))))))))

def impl_ratio_Cmp (v_x : (Option TRatio_)) (v_y : (Option TRatio_)) : Option Int :=
  v_y >>= fun y1 =>
  impl_ratio_scaled v_x y1.gDen >>= fun r3 =>
  v_x >>= fun y5 =>
  impl_ratio_scaled v_y y5.gDen >>= fun r7 =>
  impl_BigInt_compare r3 r7 >>= fun r9 =>
  some r9

theorem impl_ratio_Cmp_ok (v_x : (Option TRatio_)) (v_y : (Option TRatio_)) : Wp (impl_ratio_Cmp v_x v_y) (fun r => Con PP 34 [aO 3 eTRatio_ v_x, aO 3 eTRatio_ v_y] [] (.n .i64 r) []) := by
  unfold impl_ratio_Cmp
  exact .bnd fun y1 h2 =>
    .bnd fun r3 h4 =>
    .bnd fun y5 h6 =>
    .bnd fun r7 h8 =>
    .bnd fun r9 h10 =>
    .ret (runF_con0 hmix (tape := [.reg [nt], .reg [nt, nt, (.re 6 (.ipo 3 (some (eTRatio_ y1))) .bd, true), nt, nt, (.call { ac := [ii, ii], r := .agg [.b r3.fNeg, .isl 1 (r3.fMag.map eI)], sc := false }, true), nt, nt, (.re 12 (.ipo 3 (some (eTRatio_ y5))) .bd, true), nt, nt, (.call { ac := [ii, ii], r := .agg [.b r7.fNeg, .isl 1 (r7.fMag.map eI)], sc := false }, true), (.call { ac := [ii, ii], r := .n .i64 r9, sc := true }, true), nt]]) (rr := ii) (by kernel_rfl) (.cons (aO_some h2 : aO 3 eTRatio_ v_y = .ipo 3 (some (eTRatio_ y1))) (.cons (impl_ratio_scaled_ok v_x y1.gDen r3 h4) (.cons (aO_some h6 : aO 3 eTRatio_ v_x = .ipo 3 (some (eTRatio_ y5))) (.cons (impl_ratio_scaled_ok v_y y5.gDen r7 h8) (.cons (impl_BigInt_compare_ok r3 r7 r9 h10) (.cons (Sc.n _ _ : Sc (.n .i64 r9)) .nil)))))))

def impl_Member_other (v_m : TMember) (v_joint : Int) : Option Int :=
  if (v_joint == v_m.fA) = true then
    some v_m.fB
  else
    if (v_joint == v_m.fB) = true then
      some v_m.fA
    else
      some (-1)

theorem impl_Member_other_ok (v_m : TMember) (v_joint : Int) : Wp (impl_Member_other v_m v_joint) (fun r => Con PP 37 [.agg [.n .i64 v_m.fA, .n .i64 v_m.fB, .n .i64 v_m.fKind], .n .i64 v_joint] [] (.n .i64 r) []) := by
  unfold impl_Member_other
  exact .ite (fun h1 =>
    .ret (runF_con0 hmix (tape := [.reg [nt, nt], .reg [nt], .reg [nt, nt, nt, nt], .br true, .reg [nt, nt, nt]]) (rr := ii) (by kernel_rfl) (.cons h1 .nil)))
    (fun h1 =>
    .ite (fun h2 =>
     .ret (runF_con0 hmix (tape := [.reg [nt, nt], .reg [nt], .reg [nt, nt, nt, nt], .br false, .reg [nt, nt, nt, nt], .br true, .reg [nt, nt, nt]]) (rr := ii) (by kernel_rfl) (.cons h1 (.cons h2 .nil))))
     (fun h2 =>
     .ret (runF_con0 hmix (tape := [.reg [nt, nt], .reg [nt], .reg [nt, nt, nt, nt], .br false, .reg [nt, nt, nt, nt], .br false, .reg [nt]]) (rr := ii) (by kernel_rfl) (.cons h1 (.cons h2 .nil)))))

def impl_BigInt_opposite (v_x : TBigInt) : Option TBigInt :=
  impl_signed (!v_x.fNeg) v_x.fMag >>= fun r1 =>
  some r1

theorem impl_BigInt_opposite_ok (v_x : TBigInt) : Wp (impl_BigInt_opposite v_x) (fun r => Con PP 124 [.agg [.b v_x.fNeg, .isl 1 (v_x.fMag.map eI)]] [] (.agg [.b r.fNeg, .isl 1 (r.fMag.map eI)]) []) := by
  unfold impl_BigInt_opposite
  exact .bnd fun r1 h2 =>
    .ret (runF_con0 hmix (tape := [.reg [nt, nt], .reg [nt, nt, nt, nt, nt, (.call { ac := [ii, ii], r := .agg [.b r1.fNeg, .isl 1 (r1.fMag.map eI)], sc := false }, true), nt]]) (rr := ii) (by kernel_rfl) (.cons (impl_signed_ok (!v_x.fNeg) v_x.fMag r1 h2) .nil))

def impl_plus_L1_head (v_a : (List Int)) (v_b : (List Int)) (v_t21 : Int) (v_carry : Int) (v_t22 : Int) (row0 : (List Int)) : S := mkS [(0, .isl 1 (v_a.map eI)), (1, .isl 1 (v_b.map eI)), (5, .osl 0 0 0 row0.length), (6, .n .i64 v_carry), (20, .isl 1 (v_a.map eI)), (21, .n .i64 v_t21), (22, .n .i64 v_t22)] [[Ob.mk 1 (row0.map eI) .live]]

def impl_plus_L1_ex : (Int × (List Int)) → Exit
  | _ => .exit 0

def impl_plus_L1_out (v_a : (List Int)) (v_b : (List Int)) (v_t21 : Int) : (Int × (List Int)) → S
  | a => mkS [(0, .isl 1 (v_a.map eI)), (5, .osl 0 0 0 a.2.length), (6, .n .i64 a.1)] [[Ob.mk 1 (a.2.map eI) .live]]

def impl_plus_L1_body (v_a : (List Int)) (v_b : (List Int)) (v_t21 : Int) (v_carry : Int) (v_t22 : Int) (row0 : (List Int)) : Option ((Int × Int × (List Int)) ⊕ (Int × (List Int))) :=
  if (decide (v_t22 < v_t21)) = true then
    if 0 ≤ v_t22 ∧ v_t22 < v_a.length then
    v_a[v_t22.toNat]? >>= fun x3 =>
    if (decide (v_t22 < (len_ eI v_b))) = true then
      if 0 ≤ v_t22 ∧ v_t22 < v_b.length then
      v_b[v_t22.toNat]? >>= fun x7 =>
      if 0 ≤ v_t22 ∧ v_t22 < (row0.length : Nat) then
      if (0 + v_t22.toNat) < row0.length then
      some (.inl (w64 ((w64 ((w64 (x3 + v_carry)) + x7)).tdiv (1000000000 : Int)), w64 (v_t22 + (1 : Int)), row0.set (0 + v_t22.toNat) ((w64 ((w64 (x3 + v_carry)) + x7)).tmod (1000000000 : Int))))
      else none
      else none
      else none
    else
      if 0 ≤ v_t22 ∧ v_t22 < (row0.length : Nat) then
      if (0 + v_t22.toNat) < row0.length then
      some (.inl (w64 ((w64 (x3 + v_carry)).tdiv (1000000000 : Int)), w64 (v_t22 + (1 : Int)), row0.set (0 + v_t22.toNat) ((w64 (x3 + v_carry)).tmod (1000000000 : Int))))
      else none
      else none
    else none
  else
    some (.inr (v_carry, row0))

def impl_plus_L1 (v_a : (List Int)) (v_b : (List Int)) (v_t21 : Int) (v_carry : Int) (v_t22 : Int) (row0 : (List Int)) : Option (Int × (List Int)) := iter (fun w : Int × Int × (List Int) => impl_plus_L1_body v_a v_b v_t21 w.1 w.2.1 w.2.2) (v_carry, v_t22, row0)

theorem impl_plus_L1_body_ok (v_a : (List Int)) (v_b : (List Int)) (v_t21 : Int) (v_carry : Int) (v_t22 : Int) (row0 : (List Int)) : Wp (impl_plus_L1_body v_a v_b v_t21 v_carry v_t22 row0) (Sum.elim
    (fun w => VEx PP 55 0 (nodeAt (bodyOf PP 122) [1, 1, 1, 1, 0, 1, 0, 0]) .normal (impl_plus_L1_head v_a v_b v_t21 v_carry v_t22 row0) (impl_plus_L1_head v_a v_b v_t21 w.1 w.2.1 w.2.2))
    (fun r => VEx PP 55 0 (nodeAt (bodyOf PP 122) [1, 1, 1, 1, 0, 1, 0, 0]) (impl_plus_L1_ex r) (impl_plus_L1_head v_a v_b v_t21 v_carry v_t22 row0) (impl_plus_L1_out v_a v_b v_t21 r))) := by
  unfold impl_plus_L1_body
  exact .ite (fun h1 =>
      .grd fun h2 =>
       .bnd fun x3 h4 =>
       .ite (fun h5 =>
       .grd fun h6 =>
        .bnd fun x7 h8 =>
        .grd fun h9 =>
        .grd fun h10 =>
        .ret ((okC_sound hmix (tape := [.reg [nt], .br true, .reg [nt, nt, (.el (eI x3), true), nt, nt], .reg [nt, nt, nt, nt], .reg [nt, nt, nt, nt], .br true, .reg [nt, nt, nt, nt, (.el (eI x7), true), nt, nt], .reg [nt, nt, nt, nt, nt, nt, nt, (.bd, true), nt], .reg [nt, nt], .rst [0] [.as [Ob.mk 1 ((row0.set (0 + v_t22.toNat) ((w64 ((w64 (x3 + v_carry)) + x7)).tmod (1000000000 : Int))).map eI) .live]] [(0, ii), (1, ii), (5, .c1 (.c0 (.len ((row0.set (0 + v_t22.toNat) ((w64 ((w64 (x3 + v_carry)) + x7)).tmod (1000000000 : Int))).length)))), (6, ii), (20, ii), (21, ii), (22, ii)]]) (nr := 1) (by kernel_rfl) (.cons h1 (.cons ((h2).1) (.cons (lt_mapI (h2).2 : v_t22 < ((v_a.map eI).length : Nat)) (.cons (map_get h4 : (v_a.map eI)[v_t22.toNat]? = some (eI x3)) (.cons h5 (.cons ((h6).1) (.cons (lt_mapI (h6).2 : v_t22 < ((v_b.map eI).length : Nat)) (.cons (map_get h8 : (v_b.map eI)[v_t22.toNat]? = some (eI x7)) (.cons (by decide : (1000000000 : Int) ≠ 0) (.cons (by decide : (1000000000 : Int) ≠ 0) (.cons ((h9).1) (.cons ((h9).2) (.cons (lt_map h10 : (0 + v_t22.toNat) < (row0.map eI).length) (.cons (rfl : 1 = 1) (.cons (row_prf (set_prf (show (row0.map eI) = (row0.map eI) from rfl) (0 + v_t22.toNat) ((w64 ((w64 (x3 + v_carry)) + x7)).tmod (1000000000 : Int))) : [Ob.mk 1 ((row0.map eI).set (0 + v_t22.toNat) [.n .i64 ((w64 ((w64 (x3 + v_carry)) + x7)).tmod (1000000000 : Int))]) .live] = [Ob.mk 1 ((row0.set (0 + v_t22.toNat) ((w64 ((w64 (x3 + v_carry)) + x7)).tmod (1000000000 : Int))).map eI) .live]) (.cons (pure_row eI_pure (row0.set (0 + v_t22.toNat) ((w64 ((w64 (x3 + v_carry)) + x7)).tmod (1000000000 : Int))) : PureRow [Ob.mk 1 ((row0.set (0 + v_t22.toNat) ((w64 ((w64 (x3 + v_carry)) + x7)).tmod (1000000000 : Int))).map eI) .live]) (.cons (len_set (show row0.length = row0.length from rfl) (0 + v_t22.toNat) ((w64 ((w64 (x3 + v_carry)) + x7)).tmod (1000000000 : Int))) .nil))))))))))))))))) (mkS_free _ _) : VEx PP 55 0 (nodeAt (bodyOf PP 122) [1, 1, 1, 1, 0, 1, 0, 0]) .normal (impl_plus_L1_head v_a v_b v_t21 v_carry v_t22 row0) (impl_plus_L1_head v_a v_b v_t21 (w64 ((w64 ((w64 (x3 + v_carry)) + x7)).tdiv (1000000000 : Int))) (w64 (v_t22 + (1 : Int))) (row0.set (0 + v_t22.toNat) ((w64 ((w64 (x3 + v_carry)) + x7)).tmod (1000000000 : Int)))))))
       (fun h5 =>
       .grd fun h6 =>
        .grd fun h7 =>
        .ret ((okC_sound hmix (tape := [.reg [nt], .br true, .reg [nt, nt, (.el (eI x3), true), nt, nt], .reg [nt, nt, nt, nt], .reg [nt, nt, nt, nt], .br false, .reg [nt, nt, nt, nt, nt, nt, nt, (.bd, true), nt], .reg [nt, nt], .rst [0] [.as [Ob.mk 1 ((row0.set (0 + v_t22.toNat) ((w64 (x3 + v_carry)).tmod (1000000000 : Int))).map eI) .live]] [(0, ii), (1, ii), (5, .c1 (.c0 (.len ((row0.set (0 + v_t22.toNat) ((w64 (x3 + v_carry)).tmod (1000000000 : Int))).length)))), (6, ii), (20, ii), (21, ii), (22, ii)]]) (nr := 1) (by kernel_rfl) (.cons h1 (.cons ((h2).1) (.cons (lt_mapI (h2).2 : v_t22 < ((v_a.map eI).length : Nat)) (.cons (map_get h4 : (v_a.map eI)[v_t22.toNat]? = some (eI x3)) (.cons h5 (.cons (by decide : (1000000000 : Int) ≠ 0) (.cons (by decide : (1000000000 : Int) ≠ 0) (.cons ((h6).1) (.cons ((h6).2) (.cons (lt_map h7 : (0 + v_t22.toNat) < (row0.map eI).length) (.cons (rfl : 1 = 1) (.cons (row_prf (set_prf (show (row0.map eI) = (row0.map eI) from rfl) (0 + v_t22.toNat) ((w64 (x3 + v_carry)).tmod (1000000000 : Int))) : [Ob.mk 1 ((row0.map eI).set (0 + v_t22.toNat) [.n .i64 ((w64 (x3 + v_carry)).tmod (1000000000 : Int))]) .live] = [Ob.mk 1 ((row0.set (0 + v_t22.toNat) ((w64 (x3 + v_carry)).tmod (1000000000 : Int))).map eI) .live]) (.cons (pure_row eI_pure (row0.set (0 + v_t22.toNat) ((w64 (x3 + v_carry)).tmod (1000000000 : Int))) : PureRow [Ob.mk 1 ((row0.set (0 + v_t22.toNat) ((w64 (x3 + v_carry)).tmod (1000000000 : Int))).map eI) .live]) (.cons (len_set (show row0.length = row0.length from rfl) (0 + v_t22.toNat) ((w64 (x3 + v_carry)).tmod (1000000000 : Int))) .nil)))))))))))))) (mkS_free _ _) : VEx PP 55 0 (nodeAt (bodyOf PP 122) [1, 1, 1, 1, 0, 1, 0, 0]) .normal (impl_plus_L1_head v_a v_b v_t21 v_carry v_t22 row0) (impl_plus_L1_head v_a v_b v_t21 (w64 ((w64 (x3 + v_carry)).tdiv (1000000000 : Int))) (w64 (v_t22 + (1 : Int))) (row0.set (0 + v_t22.toNat) ((w64 (x3 + v_carry)).tmod (1000000000 : Int))))))))
      (fun h1 =>
      .ret ((okC_sound hmix (tape := [.reg [nt], .br false, .rst [0] [.pure] [(0, ii), (5, ii), (6, ii)]]) (nr := 1) (by kernel_rfl) (.cons h1 (.cons (pure_row eI_pure row0 : PureRow [Ob.mk 1 (row0.map eI) .live]) .nil)) (mkS_free _ _) : VEx PP 55 0 (nodeAt (bodyOf PP 122) [1, 1, 1, 1, 0, 1, 0, 0]) (.exit 0) (impl_plus_L1_head v_a v_b v_t21 v_carry v_t22 row0) (impl_plus_L1_out v_a v_b v_t21 (v_carry, row0)))))

theorem impl_plus_L1_ok (v_a : (List Int)) (v_b : (List Int)) (v_t21 : Int) (v_carry : Int) (v_t22 : Int) (row0 : (List Int)) : ∀ r, impl_plus_L1 v_a v_b v_t21 v_carry v_t22 row0 = some r → VLoop PP 55 0 (nodeAt (bodyOf PP 122) [1, 1, 1, 1, 0, 1, 0, 0]) (impl_plus_L1_ex r) (impl_plus_L1_head v_a v_b v_t21 v_carry v_t22 row0) (impl_plus_L1_out v_a v_b v_t21 r) := fun r h =>
  iter_ok (head := fun w : Int × Int × (List Int) => impl_plus_L1_head v_a v_b v_t21 w.1 w.2.1 w.2.2) (ex := impl_plus_L1_ex) (out := impl_plus_L1_out v_a v_b v_t21) (by intro r; unfold impl_plus_L1_ex; split <;> simp) (fun w => impl_plus_L1_body_ok v_a v_b v_t21 w.1 w.2.1 w.2.2) (v_carry, v_t22, row0) r h

def impl_plus (v_a : (List Int)) (v_b : (List Int)) : Option (List Int) :=
  if (decide ((len_ eI v_a) < (len_ eI v_b))) = true then
    if 0 ≤ (w64 ((len_ eI v_b) + (1 : Int))) ∧ (8 : Int) * (w64 ((len_ eI v_b) + (1 : Int))) ≤ 281474976710656 ∧ (w64 ((len_ eI v_b) + (1 : Int))) < 9223372036854775808 then
    impl_plus_L1 v_b v_a (len_ eI v_b) 0 0 (List.replicate (w64 ((len_ eI v_b) + (1 : Int))).toNat 0 : List Int) >>= fun r3 =>
    if 0 ≤ (len_ eI v_b) ∧ (len_ eI v_b) < (r3.2.length : Nat) then
    if (0 + (len_ eI v_b).toNat) < r3.2.length then
    impl_trim (r3.2.set (0 + (len_ eI v_b).toNat) r3.1) >>= fun r7 =>
    some r7
    else none
    else none
    else none
  else
    if 0 ≤ (w64 ((len_ eI v_a) + (1 : Int))) ∧ (8 : Int) * (w64 ((len_ eI v_a) + (1 : Int))) ≤ 281474976710656 ∧ (w64 ((len_ eI v_a) + (1 : Int))) < 9223372036854775808 then
    impl_plus_L1 v_a v_b (len_ eI v_a) 0 0 (List.replicate (w64 ((len_ eI v_a) + (1 : Int))).toNat 0 : List Int) >>= fun r3 =>
    if 0 ≤ (len_ eI v_a) ∧ (len_ eI v_a) < (r3.2.length : Nat) then
    if (0 + (len_ eI v_a).toNat) < r3.2.length then
    impl_trim (r3.2.set (0 + (len_ eI v_a).toNat) r3.1) >>= fun r7 =>
    some r7
    else none
    else none
    else none

theorem impl_plus_ok (v_a : (List Int)) (v_b : (List Int)) : Wp (impl_plus v_a v_b) (fun r => Con PP 122 [.isl 1 (v_a.map eI), .isl 1 (v_b.map eI)] [] (.isl 1 (r.map eI)) []) := by
  unfold impl_plus
  exact .ite (fun h1 =>
    .grd fun h2 =>
     .bnd fun r3 h4 =>
     .grd fun h5 =>
     .grd fun h6 =>
     .bnd fun r7 h8 =>
     .ret (runF_con0 hmix (tape := [.reg [nt], .reg [nt, nt, nt, nt, nt], .br true, .reg [nt, nt, nt, nt], .reg [nt, nt, nt, nt, nt], .reg [nt], .reg [nt, nt, nt], .rst [13] [.as [Ob.mk 1 ((List.replicate (w64 ((len_ eI v_b) + (1 : Int))).toNat 0 : List Int).map eI) .live]] [(0, ii), (1, ii), (5, .c1 (.c0 (.len ((List.replicate (w64 ((len_ eI v_b) + (1 : Int))).toNat 0 : List Int).length)))), (6, ii), (20, ii), (21, ii), (22, ii)], .sub (.exit 0) [(0, .isl 1 (v_b.map eI)), (5, .osl 0 0 0 r3.2.length), (6, .n .i64 r3.1)] [[Ob.mk 1 (r3.2.map eI) .live]], .reg [nt, nt, nt, nt, nt, (.bd, true)], .frz 0, .reg [nt, (.call { ac := [.c1 (.c0 (.sl ((r3.2.set (0 + (len_ eI v_b).toNat) r3.1).map eI)))], rds := [0], r := .isl 1 (r7.map eI), sc := false }, true), nt]]) (rr := ii) (by kernel_rfl) (.cons h1 (.cons ((h2).1) (.cons (Int.le_refl (w64 ((len_ eI v_b) + (1 : Int)))) (.cons ((h2).2.1) (.cons ((h2).2.2) (.cons (row_prf (rep_prf eI (w64 ((len_ eI v_b) + (1 : Int))).toNat 0) : [Ob.mk 1 (List.replicate (w64 ((len_ eI v_b) + (1 : Int))).toNat [.n .i64 (0 : Int)]) .live] = [Ob.mk 1 ((List.replicate (w64 ((len_ eI v_b) + (1 : Int))).toNat 0 : List Int).map eI) .live]) (.cons (pure_row eI_pure (List.replicate (w64 ((len_ eI v_b) + (1 : Int))).toNat 0 : List Int) : PureRow [Ob.mk 1 ((List.replicate (w64 ((len_ eI v_b) + (1 : Int))).toNat 0 : List Int).map eI) .live]) (.cons (len_rep (w64 ((len_ eI v_b) + (1 : Int))).toNat (0 : Int)) (.cons ((impl_plus_L1_ok v_b v_a (len_ eI v_b) 0 0 (List.replicate (w64 ((len_ eI v_b) + (1 : Int))).toNat 0 : List Int) r3 h4).vex) (.cons ((h5).1) (.cons ((h5).2) (.cons (lt_map h6 : (0 + (len_ eI v_b).toNat) < (r3.2.map eI).length) (.cons (rfl : 1 = 1) (.cons (snap_full (set_prf (show (r3.2.map eI) = (r3.2.map eI) from rfl) (0 + (len_ eI v_b).toNat) r3.1) (len_set (show r3.2.length = r3.2.length from rfl) (0 + (len_ eI v_b).toNat) r3.1)) (.cons (fit_full (set_prf (show (r3.2.map eI) = (r3.2.map eI) from rfl) (0 + (len_ eI v_b).toNat) r3.1) (len_set (show r3.2.length = r3.2.length from rfl) (0 + (len_ eI v_b).toNat) r3.1)) (.cons (pure_map eI_pure (r3.2.set (0 + (len_ eI v_b).toNat) r3.1)) (.cons (impl_trim_ok (r3.2.set (0 + (len_ eI v_b).toNat) r3.1) r7 h8) .nil)))))))))))))))))))
    (fun h1 =>
    .grd fun h2 =>
     .bnd fun r3 h4 =>
     .grd fun h5 =>
     .grd fun h6 =>
     .bnd fun r7 h8 =>
     .ret (runF_con0 hmix (tape := [.reg [nt], .reg [nt, nt, nt, nt, nt], .br false, .reg [nt, nt, nt, nt, nt], .reg [nt], .reg [nt, nt, nt], .rst [9] [.as [Ob.mk 1 ((List.replicate (w64 ((len_ eI v_a) + (1 : Int))).toNat 0 : List Int).map eI) .live]] [(0, ii), (1, ii), (5, .c1 (.c0 (.len ((List.replicate (w64 ((len_ eI v_a) + (1 : Int))).toNat 0 : List Int).length)))), (6, ii), (20, ii), (21, ii), (22, ii)], .sub (.exit 0) [(0, .isl 1 (v_a.map eI)), (5, .osl 0 0 0 r3.2.length), (6, .n .i64 r3.1)] [[Ob.mk 1 (r3.2.map eI) .live]], .reg [nt, nt, nt, nt, nt, (.bd, true)], .frz 0, .reg [nt, (.call { ac := [.c1 (.c0 (.sl ((r3.2.set (0 + (len_ eI v_a).toNat) r3.1).map eI)))], rds := [0], r := .isl 1 (r7.map eI), sc := false }, true), nt]]) (rr := ii) (by kernel_rfl) (.cons h1 (.cons ((h2).1) (.cons (Int.le_refl (w64 ((len_ eI v_a) + (1 : Int)))) (.cons ((h2).2.1) (.cons ((h2).2.2) (.cons (row_prf (rep_prf eI (w64 ((len_ eI v_a) + (1 : Int))).toNat 0) : [Ob.mk 1 (List.replicate (w64 ((len_ eI v_a) + (1 : Int))).toNat [.n .i64 (0 : Int)]) .live] = [Ob.mk 1 ((List.replicate (w64 ((len_ eI v_a) + (1 : Int))).toNat 0 : List Int).map eI) .live]) (.cons (pure_row eI_pure (List.replicate (w64 ((len_ eI v_a) + (1 : Int))).toNat 0 : List Int) : PureRow [Ob.mk 1 ((List.replicate (w64 ((len_ eI v_a) + (1 : Int))).toNat 0 : List Int).map eI) .live]) (.cons (len_rep (w64 ((len_ eI v_a) + (1 : Int))).toNat (0 : Int)) (.cons ((impl_plus_L1_ok v_a v_b (len_ eI v_a) 0 0 (List.replicate (w64 ((len_ eI v_a) + (1 : Int))).toNat 0 : List Int) r3 h4).vex) (.cons ((h5).1) (.cons ((h5).2) (.cons (lt_map h6 : (0 + (len_ eI v_a).toNat) < (r3.2.map eI).length) (.cons (rfl : 1 = 1) (.cons (snap_full (set_prf (show (r3.2.map eI) = (r3.2.map eI) from rfl) (0 + (len_ eI v_a).toNat) r3.1) (len_set (show r3.2.length = r3.2.length from rfl) (0 + (len_ eI v_a).toNat) r3.1)) (.cons (fit_full (set_prf (show (r3.2.map eI) = (r3.2.map eI) from rfl) (0 + (len_ eI v_a).toNat) r3.1) (len_set (show r3.2.length = r3.2.length from rfl) (0 + (len_ eI v_a).toNat) r3.1)) (.cons (pure_map eI_pure (r3.2.set (0 + (len_ eI v_a).toNat) r3.1)) (.cons (impl_trim_ok (r3.2.set (0 + (len_ eI v_a).toNat) r3.1) r7 h8) .nil)))))))))))))))))))

def impl_minus_L1_head (v_b : (List Int)) (v_t12 : (List Int)) (v_t13 : Int) (v_borrow : Int) (v_t14 : Int) (row0 : (List Int)) : S := mkS [(1, .isl 1 (v_b.map eI)), (5, .osl 0 0 0 row0.length), (6, .n .i64 v_borrow), (12, .isl 1 (v_t12.map eI)), (13, .n .i64 v_t13), (14, .n .i64 v_t14)] [[Ob.mk 1 (row0.map eI) .live]]

def impl_minus_L1_ex : (List Int) → Exit
  | _ => .exit 0

def impl_minus_L1_out (v_b : (List Int)) (v_t12 : (List Int)) (v_t13 : Int) : (List Int) → S
  | a => mkS [(5, .osl 0 0 0 a.length)] [[Ob.mk 1 (a.map eI) .live]]

def impl_minus_L1_body (v_b : (List Int)) (v_t12 : (List Int)) (v_t13 : Int) (v_borrow : Int) (v_t14 : Int) (row0 : (List Int)) : Option ((Int × Int × (List Int)) ⊕ ((List Int))) :=
  if (decide (v_t14 < v_t13)) = true then
    if 0 ≤ v_t14 ∧ v_t14 < v_t12.length then
    v_t12[v_t14.toNat]? >>= fun x3 =>
    if (decide (v_t14 < (len_ eI v_b))) = true then
      if 0 ≤ v_t14 ∧ v_t14 < v_b.length then
      v_b[v_t14.toNat]? >>= fun x7 =>
      if (decide ((w64 ((w64 (x3 - v_borrow)) - x7)) < (0 : Int))) = true then
        if 0 ≤ v_t14 ∧ v_t14 < (row0.length : Nat) then
        if (0 + v_t14.toNat) < row0.length then
        some (.inl (1, w64 (v_t14 + (1 : Int)), row0.set (0 + v_t14.toNat) (w64 ((w64 ((w64 (x3 - v_borrow)) - x7)) + (1000000000 : Int)))))
        else none
        else none
      else
        if 0 ≤ v_t14 ∧ v_t14 < (row0.length : Nat) then
        if (0 + v_t14.toNat) < row0.length then
        some (.inl (0, w64 (v_t14 + (1 : Int)), row0.set (0 + v_t14.toNat) (w64 ((w64 (x3 - v_borrow)) - x7))))
        else none
        else none
      else none
    else
      if (decide ((w64 (x3 - v_borrow)) < (0 : Int))) = true then
        if 0 ≤ v_t14 ∧ v_t14 < (row0.length : Nat) then
        if (0 + v_t14.toNat) < row0.length then
        some (.inl (1, w64 (v_t14 + (1 : Int)), row0.set (0 + v_t14.toNat) (w64 ((w64 (x3 - v_borrow)) + (1000000000 : Int)))))
        else none
        else none
      else
        if 0 ≤ v_t14 ∧ v_t14 < (row0.length : Nat) then
        if (0 + v_t14.toNat) < row0.length then
        some (.inl (0, w64 (v_t14 + (1 : Int)), row0.set (0 + v_t14.toNat) (w64 (x3 - v_borrow))))
        else none
        else none
    else none
  else
    some (.inr row0)

def impl_minus_L1 (v_b : (List Int)) (v_t12 : (List Int)) (v_t13 : Int) (v_borrow : Int) (v_t14 : Int) (row0 : (List Int)) : Option ((List Int)) := iter (fun w : Int × Int × (List Int) => impl_minus_L1_body v_b v_t12 v_t13 w.1 w.2.1 w.2.2) (v_borrow, v_t14, row0)

theorem impl_minus_L1_body_ok (v_b : (List Int)) (v_t12 : (List Int)) (v_t13 : Int) (v_borrow : Int) (v_t14 : Int) (row0 : (List Int)) : Wp (impl_minus_L1_body v_b v_t12 v_t13 v_borrow v_t14 row0) (Sum.elim
    (fun w => VEx PP 43 0 (nodeAt (bodyOf PP 123) [1, 1, 1, 0, 1, 0, 0]) .normal (impl_minus_L1_head v_b v_t12 v_t13 v_borrow v_t14 row0) (impl_minus_L1_head v_b v_t12 v_t13 w.1 w.2.1 w.2.2))
    (fun r => VEx PP 43 0 (nodeAt (bodyOf PP 123) [1, 1, 1, 0, 1, 0, 0]) (impl_minus_L1_ex r) (impl_minus_L1_head v_b v_t12 v_t13 v_borrow v_t14 row0) (impl_minus_L1_out v_b v_t12 v_t13 r))) := by
  unfold impl_minus_L1_body
  exact .ite (fun h1 =>
      .grd fun h2 =>
       .bnd fun x3 h4 =>
       .ite (fun h5 =>
       .grd fun h6 =>
        .bnd fun x7 h8 =>
        .ite (fun h9 =>
        .grd fun h10 =>
         .grd fun h11 =>
         .ret ((okC_sound hmix (tape := [.reg [nt], .br true, .reg [nt, nt, (.el (eI x3), true), nt, nt], .reg [nt, nt, nt, nt], .reg [nt, nt, nt, nt], .br true, .reg [nt, nt, nt, nt, (.el (eI x7), true), nt, nt], .reg [nt], .reg [nt, nt], .br true, .reg [nt, nt, nt], .reg [nt], .reg [nt, nt, nt, nt, (.bd, true)], .reg [nt, nt], .rst [0] [.as [Ob.mk 1 ((row0.set (0 + v_t14.toNat) (w64 ((w64 ((w64 (x3 - v_borrow)) - x7)) + (1000000000 : Int)))).map eI) .live]] [(1, ii), (5, .c1 (.c0 (.len ((row0.set (0 + v_t14.toNat) (w64 ((w64 ((w64 (x3 - v_borrow)) - x7)) + (1000000000 : Int)))).length)))), (6, ii), (12, ii), (13, ii), (14, ii)]]) (nr := 1) (by kernel_rfl) (.cons h1 (.cons ((h2).1) (.cons (lt_mapI (h2).2 : v_t14 < ((v_t12.map eI).length : Nat)) (.cons (map_get h4 : (v_t12.map eI)[v_t14.toNat]? = some (eI x3)) (.cons h5 (.cons ((h6).1) (.cons (lt_mapI (h6).2 : v_t14 < ((v_b.map eI).length : Nat)) (.cons (map_get h8 : (v_b.map eI)[v_t14.toNat]? = some (eI x7)) (.cons h9 (.cons ((h10).1) (.cons ((h10).2) (.cons (lt_map h11 : (0 + v_t14.toNat) < (row0.map eI).length) (.cons (rfl : 1 = 1) (.cons (row_prf (set_prf (show (row0.map eI) = (row0.map eI) from rfl) (0 + v_t14.toNat) (w64 ((w64 ((w64 (x3 - v_borrow)) - x7)) + (1000000000 : Int)))) : [Ob.mk 1 ((row0.map eI).set (0 + v_t14.toNat) [.n .i64 (w64 ((w64 ((w64 (x3 - v_borrow)) - x7)) + (1000000000 : Int)))]) .live] = [Ob.mk 1 ((row0.set (0 + v_t14.toNat) (w64 ((w64 ((w64 (x3 - v_borrow)) - x7)) + (1000000000 : Int)))).map eI) .live]) (.cons (pure_row eI_pure (row0.set (0 + v_t14.toNat) (w64 ((w64 ((w64 (x3 - v_borrow)) - x7)) + (1000000000 : Int)))) : PureRow [Ob.mk 1 ((row0.set (0 + v_t14.toNat) (w64 ((w64 ((w64 (x3 - v_borrow)) - x7)) + (1000000000 : Int)))).map eI) .live]) (.cons (len_set (show row0.length = row0.length from rfl) (0 + v_t14.toNat) (w64 ((w64 ((w64 (x3 - v_borrow)) - x7)) + (1000000000 : Int)))) .nil)))))))))))))))) (mkS_free _ _) : VEx PP 43 0 (nodeAt (bodyOf PP 123) [1, 1, 1, 0, 1, 0, 0]) .normal (impl_minus_L1_head v_b v_t12 v_t13 v_borrow v_t14 row0) (impl_minus_L1_head v_b v_t12 v_t13 1 (w64 (v_t14 + (1 : Int))) (row0.set (0 + v_t14.toNat) (w64 ((w64 ((w64 (x3 - v_borrow)) - x7)) + (1000000000 : Int))))))))
        (fun h9 =>
        .grd fun h10 =>
         .grd fun h11 =>
         .ret ((okC_sound hmix (tape := [.reg [nt], .br true, .reg [nt, nt, (.el (eI x3), true), nt, nt], .reg [nt, nt, nt, nt], .reg [nt, nt, nt, nt], .br true, .reg [nt, nt, nt, nt, (.el (eI x7), true), nt, nt], .reg [nt], .reg [nt, nt], .br false, .reg [nt, nt, nt, nt, (.bd, true)], .reg [nt, nt], .rst [0] [.as [Ob.mk 1 ((row0.set (0 + v_t14.toNat) (w64 ((w64 (x3 - v_borrow)) - x7))).map eI) .live]] [(1, ii), (5, .c1 (.c0 (.len ((row0.set (0 + v_t14.toNat) (w64 ((w64 (x3 - v_borrow)) - x7))).length)))), (6, ii), (12, ii), (13, ii), (14, ii)]]) (nr := 1) (by kernel_rfl) (.cons h1 (.cons ((h2).1) (.cons (lt_mapI (h2).2 : v_t14 < ((v_t12.map eI).length : Nat)) (.cons (map_get h4 : (v_t12.map eI)[v_t14.toNat]? = some (eI x3)) (.cons h5 (.cons ((h6).1) (.cons (lt_mapI (h6).2 : v_t14 < ((v_b.map eI).length : Nat)) (.cons (map_get h8 : (v_b.map eI)[v_t14.toNat]? = some (eI x7)) (.cons h9 (.cons ((h10).1) (.cons ((h10).2) (.cons (lt_map h11 : (0 + v_t14.toNat) < (row0.map eI).length) (.cons (rfl : 1 = 1) (.cons (row_prf (set_prf (show (row0.map eI) = (row0.map eI) from rfl) (0 + v_t14.toNat) (w64 ((w64 (x3 - v_borrow)) - x7))) : [Ob.mk 1 ((row0.map eI).set (0 + v_t14.toNat) [.n .i64 (w64 ((w64 (x3 - v_borrow)) - x7))]) .live] = [Ob.mk 1 ((row0.set (0 + v_t14.toNat) (w64 ((w64 (x3 - v_borrow)) - x7))).map eI) .live]) (.cons (pure_row eI_pure (row0.set (0 + v_t14.toNat) (w64 ((w64 (x3 - v_borrow)) - x7))) : PureRow [Ob.mk 1 ((row0.set (0 + v_t14.toNat) (w64 ((w64 (x3 - v_borrow)) - x7))).map eI) .live]) (.cons (len_set (show row0.length = row0.length from rfl) (0 + v_t14.toNat) (w64 ((w64 (x3 - v_borrow)) - x7))) .nil)))))))))))))))) (mkS_free _ _) : VEx PP 43 0 (nodeAt (bodyOf PP 123) [1, 1, 1, 0, 1, 0, 0]) .normal (impl_minus_L1_head v_b v_t12 v_t13 v_borrow v_t14 row0) (impl_minus_L1_head v_b v_t12 v_t13 0 (w64 (v_t14 + (1 : Int))) (row0.set (0 + v_t14.toNat) (w64 ((w64 (x3 - v_borrow)) - x7))))))))
       (fun h5 =>
       .ite (fun h6 =>
        .grd fun h7 =>
         .grd fun h8 =>
         .ret ((okC_sound hmix (tape := [.reg [nt], .br true, .reg [nt, nt, (.el (eI x3), true), nt, nt], .reg [nt, nt, nt, nt], .reg [nt, nt, nt, nt], .br false, .reg [nt], .reg [nt, nt], .br true, .reg [nt, nt, nt], .reg [nt], .reg [nt, nt, nt, nt, (.bd, true)], .reg [nt, nt], .rst [0] [.as [Ob.mk 1 ((row0.set (0 + v_t14.toNat) (w64 ((w64 (x3 - v_borrow)) + (1000000000 : Int)))).map eI) .live]] [(1, ii), (5, .c1 (.c0 (.len ((row0.set (0 + v_t14.toNat) (w64 ((w64 (x3 - v_borrow)) + (1000000000 : Int)))).length)))), (6, ii), (12, ii), (13, ii), (14, ii)]]) (nr := 1) (by kernel_rfl) (.cons h1 (.cons ((h2).1) (.cons (lt_mapI (h2).2 : v_t14 < ((v_t12.map eI).length : Nat)) (.cons (map_get h4 : (v_t12.map eI)[v_t14.toNat]? = some (eI x3)) (.cons h5 (.cons h6 (.cons ((h7).1) (.cons ((h7).2) (.cons (lt_map h8 : (0 + v_t14.toNat) < (row0.map eI).length) (.cons (rfl : 1 = 1) (.cons (row_prf (set_prf (show (row0.map eI) = (row0.map eI) from rfl) (0 + v_t14.toNat) (w64 ((w64 (x3 - v_borrow)) + (1000000000 : Int)))) : [Ob.mk 1 ((row0.map eI).set (0 + v_t14.toNat) [.n .i64 (w64 ((w64 (x3 - v_borrow)) + (1000000000 : Int)))]) .live] = [Ob.mk 1 ((row0.set (0 + v_t14.toNat) (w64 ((w64 (x3 - v_borrow)) + (1000000000 : Int)))).map eI) .live]) (.cons (pure_row eI_pure (row0.set (0 + v_t14.toNat) (w64 ((w64 (x3 - v_borrow)) + (1000000000 : Int)))) : PureRow [Ob.mk 1 ((row0.set (0 + v_t14.toNat) (w64 ((w64 (x3 - v_borrow)) + (1000000000 : Int)))).map eI) .live]) (.cons (len_set (show row0.length = row0.length from rfl) (0 + v_t14.toNat) (w64 ((w64 (x3 - v_borrow)) + (1000000000 : Int)))) .nil))))))))))))) (mkS_free _ _) : VEx PP 43 0 (nodeAt (bodyOf PP 123) [1, 1, 1, 0, 1, 0, 0]) .normal (impl_minus_L1_head v_b v_t12 v_t13 v_borrow v_t14 row0) (impl_minus_L1_head v_b v_t12 v_t13 1 (w64 (v_t14 + (1 : Int))) (row0.set (0 + v_t14.toNat) (w64 ((w64 (x3 - v_borrow)) + (1000000000 : Int))))))))
        (fun h6 =>
        .grd fun h7 =>
         .grd fun h8 =>
         .ret ((okC_sound hmix (tape := [.reg [nt], .br true, .reg [nt, nt, (.el (eI x3), true), nt, nt], .reg [nt, nt, nt, nt], .reg [nt, nt, nt, nt], .br false, .reg [nt], .reg [nt, nt], .br false, .reg [nt, nt, nt, nt, (.bd, true)], .reg [nt, nt], .rst [0] [.as [Ob.mk 1 ((row0.set (0 + v_t14.toNat) (w64 (x3 - v_borrow))).map eI) .live]] [(1, ii), (5, .c1 (.c0 (.len ((row0.set (0 + v_t14.toNat) (w64 (x3 - v_borrow))).length)))), (6, ii), (12, ii), (13, ii), (14, ii)]]) (nr := 1) (by kernel_rfl) (.cons h1 (.cons ((h2).1) (.cons (lt_mapI (h2).2 : v_t14 < ((v_t12.map eI).length : Nat)) (.cons (map_get h4 : (v_t12.map eI)[v_t14.toNat]? = some (eI x3)) (.cons h5 (.cons h6 (.cons ((h7).1) (.cons ((h7).2) (.cons (lt_map h8 : (0 + v_t14.toNat) < (row0.map eI).length) (.cons (rfl : 1 = 1) (.cons (row_prf (set_prf (show (row0.map eI) = (row0.map eI) from rfl) (0 + v_t14.toNat) (w64 (x3 - v_borrow))) : [Ob.mk 1 ((row0.map eI).set (0 + v_t14.toNat) [.n .i64 (w64 (x3 - v_borrow))]) .live] = [Ob.mk 1 ((row0.set (0 + v_t14.toNat) (w64 (x3 - v_borrow))).map eI) .live]) (.cons (pure_row eI_pure (row0.set (0 + v_t14.toNat) (w64 (x3 - v_borrow))) : PureRow [Ob.mk 1 ((row0.set (0 + v_t14.toNat) (w64 (x3 - v_borrow))).map eI) .live]) (.cons (len_set (show row0.length = row0.length from rfl) (0 + v_t14.toNat) (w64 (x3 - v_borrow))) .nil))))))))))))) (mkS_free _ _) : VEx PP 43 0 (nodeAt (bodyOf PP 123) [1, 1, 1, 0, 1, 0, 0]) .normal (impl_minus_L1_head v_b v_t12 v_t13 v_borrow v_t14 row0) (impl_minus_L1_head v_b v_t12 v_t13 0 (w64 (v_t14 + (1 : Int))) (row0.set (0 + v_t14.toNat) (w64 (x3 - v_borrow)))))))))
      (fun h1 =>
      .ret ((okC_sound hmix (tape := [.reg [nt], .br false, .rst [0] [.pure] [(5, ii)]]) (nr := 1) (by kernel_rfl) (.cons h1 (.cons (pure_row eI_pure row0 : PureRow [Ob.mk 1 (row0.map eI) .live]) .nil)) (mkS_free _ _) : VEx PP 43 0 (nodeAt (bodyOf PP 123) [1, 1, 1, 0, 1, 0, 0]) (.exit 0) (impl_minus_L1_head v_b v_t12 v_t13 v_borrow v_t14 row0) (impl_minus_L1_out v_b v_t12 v_t13 row0))))

theorem impl_minus_L1_ok (v_b : (List Int)) (v_t12 : (List Int)) (v_t13 : Int) (v_borrow : Int) (v_t14 : Int) (row0 : (List Int)) : ∀ r, impl_minus_L1 v_b v_t12 v_t13 v_borrow v_t14 row0 = some r → VLoop PP 43 0 (nodeAt (bodyOf PP 123) [1, 1, 1, 0, 1, 0, 0]) (impl_minus_L1_ex r) (impl_minus_L1_head v_b v_t12 v_t13 v_borrow v_t14 row0) (impl_minus_L1_out v_b v_t12 v_t13 r) := fun r h =>
  iter_ok (head := fun w : Int × Int × (List Int) => impl_minus_L1_head v_b v_t12 v_t13 w.1 w.2.1 w.2.2) (ex := impl_minus_L1_ex) (out := impl_minus_L1_out v_b v_t12 v_t13) (by intro r; unfold impl_minus_L1_ex; split <;> simp) (fun w => impl_minus_L1_body_ok v_b v_t12 v_t13 w.1 w.2.1 w.2.2) (v_borrow, v_t14, row0) r h

def impl_minus (v_a : (List Int)) (v_b : (List Int)) : Option (List Int) :=
  if 0 ≤ (len_ eI v_a) ∧ (8 : Int) * (len_ eI v_a) ≤ 281474976710656 ∧ (len_ eI v_a) < 9223372036854775808 then
  impl_minus_L1 v_b v_a (len_ eI v_a) 0 0 (List.replicate (len_ eI v_a).toNat 0 : List Int) >>= fun r2 =>
  impl_trim r2 >>= fun r4 =>
  some r4
  else none

theorem impl_minus_ok (v_a : (List Int)) (v_b : (List Int)) : Wp (impl_minus v_a v_b) (fun r => Con PP 123 [.isl 1 (v_a.map eI), .isl 1 (v_b.map eI)] [] (.isl 1 (r.map eI)) []) := by
  unfold impl_minus
  exact .grd fun h1 =>
    .bnd fun r2 h3 =>
    .bnd fun r4 h5 =>
    .ret (runF_con0 hmix (tape := [.reg [nt], .reg [nt, nt, nt, nt], .reg [nt], .reg [nt, nt, nt], .rst [3] [.as [Ob.mk 1 ((List.replicate (len_ eI v_a).toNat 0 : List Int).map eI) .live]] [(1, ii), (5, .c1 (.c0 (.len ((List.replicate (len_ eI v_a).toNat 0 : List Int).length)))), (6, ii), (12, ii), (13, ii), (14, ii)], .sub (.exit 0) [(5, .osl 0 0 0 r2.length)] [[Ob.mk 1 (r2.map eI) .live]], .frz 0, .reg [nt, (.call { ac := [.c1 (.c0 (.sl (r2.map eI)))], rds := [0], r := .isl 1 (r4.map eI), sc := false }, true), nt]]) (rr := ii) (by kernel_rfl) (.cons ((h1).1) (.cons (Int.le_refl (len_ eI v_a)) (.cons ((h1).2.1) (.cons ((h1).2.2) (.cons (row_prf (rep_prf eI (len_ eI v_a).toNat 0) : [Ob.mk 1 (List.replicate (len_ eI v_a).toNat [.n .i64 (0 : Int)]) .live] = [Ob.mk 1 ((List.replicate (len_ eI v_a).toNat 0 : List Int).map eI) .live]) (.cons (pure_row eI_pure (List.replicate (len_ eI v_a).toNat 0 : List Int) : PureRow [Ob.mk 1 ((List.replicate (len_ eI v_a).toNat 0 : List Int).map eI) .live]) (.cons (len_rep (len_ eI v_a).toNat (0 : Int)) (.cons ((impl_minus_L1_ok v_b v_a (len_ eI v_a) 0 0 (List.replicate (len_ eI v_a).toNat 0 : List Int) r2 h3).vex) (.cons (snap_full (show (r2.map eI) = (r2.map eI) from rfl) (show r2.length = r2.length from rfl)) (.cons (fit_full (show (r2.map eI) = (r2.map eI) from rfl) (show r2.length = r2.length from rfl)) (.cons (pure_map eI_pure r2) (.cons (impl_trim_ok r2 r4 h5) .nil)))))))))))))

def impl_BigInt_plus (v_x : TBigInt) (v_y : TBigInt) : Option TBigInt :=
  impl_compare v_x.fMag v_y.fMag >>= fun r1 =>
  if (v_x.fNeg == v_y.fNeg) = true then
    impl_plus v_x.fMag v_y.fMag >>= fun r4 =>
    impl_signed v_x.fNeg r4 >>= fun r6 =>
    some r6
  else
    if (decide ((0 : Int) ≤ r1)) = true then
      impl_minus v_x.fMag v_y.fMag >>= fun r5 =>
      impl_signed v_x.fNeg r5 >>= fun r7 =>
      some r7
    else
      impl_minus v_y.fMag v_x.fMag >>= fun r5 =>
      impl_signed v_y.fNeg r5 >>= fun r7 =>
      some r7

theorem impl_BigInt_plus_ok (v_x : TBigInt) (v_y : TBigInt) : Wp (impl_BigInt_plus v_x v_y) (fun r => Con PP 101 [.agg [.b v_x.fNeg, .isl 1 (v_x.fMag.map eI)], .agg [.b v_y.fNeg, .isl 1 (v_y.fMag.map eI)]] [] (.agg [.b r.fNeg, .isl 1 (r.fMag.map eI)]) []) := by
  unfold impl_BigInt_plus
  exact .bnd fun r1 h2 =>
    .ite (fun h3 =>
    .bnd fun r4 h5 =>
     .bnd fun r6 h7 =>
     .ret (runF_con0 hmix (tape := [.reg [nt, nt, nt], .reg [nt, nt, nt, nt, (.call { ac := [ii, ii], r := .n .i64 r1, sc := true }, true), nt], .reg [nt, nt, nt, nt, nt, nt], .br true, .reg [nt, nt, nt, nt, nt, nt, (.call { ac := [ii, ii], r := .isl 1 (r4.map eI), sc := false }, true), (.call { ac := [ii, ii], r := .agg [.b r6.fNeg, .isl 1 (r6.fMag.map eI)], sc := false }, true), nt]]) (rr := ii) (by kernel_rfl) (.cons (impl_compare_ok v_x.fMag v_y.fMag r1 h2) (.cons (Sc.n _ _ : Sc (.n .i64 r1)) (.cons h3 (.cons (impl_plus_ok v_x.fMag v_y.fMag r4 h5) (.cons (impl_signed_ok v_x.fNeg r4 r6 h7) .nil)))))))
    (fun h3 =>
    .ite (fun h4 =>
     .bnd fun r5 h6 =>
      .bnd fun r7 h8 =>
      .ret (runF_con0 hmix (tape := [.reg [nt, nt, nt], .reg [nt, nt, nt, nt, (.call { ac := [ii, ii], r := .n .i64 r1, sc := true }, true), nt], .reg [nt, nt, nt, nt, nt, nt], .br false, .reg [nt, nt, nt], .br true, .reg [nt, nt, nt, nt, nt, nt, (.call { ac := [ii, ii], r := .isl 1 (r5.map eI), sc := false }, true), (.call { ac := [ii, ii], r := .agg [.b r7.fNeg, .isl 1 (r7.fMag.map eI)], sc := false }, true), nt]]) (rr := ii) (by kernel_rfl) (.cons (impl_compare_ok v_x.fMag v_y.fMag r1 h2) (.cons (Sc.n _ _ : Sc (.n .i64 r1)) (.cons h3 (.cons h4 (.cons (impl_minus_ok v_x.fMag v_y.fMag r5 h6) (.cons (impl_signed_ok v_x.fNeg r5 r7 h8) .nil))))))))
     (fun h4 =>
     .bnd fun r5 h6 =>
      .bnd fun r7 h8 =>
      .ret (runF_con0 hmix (tape := [.reg [nt, nt, nt], .reg [nt, nt, nt, nt, (.call { ac := [ii, ii], r := .n .i64 r1, sc := true }, true), nt], .reg [nt, nt, nt, nt, nt, nt], .br false, .reg [nt, nt, nt], .br false, .reg [nt, nt, nt, nt, nt, nt, (.call { ac := [ii, ii], r := .isl 1 (r5.map eI), sc := false }, true), (.call { ac := [ii, ii], r := .agg [.b r7.fNeg, .isl 1 (r7.fMag.map eI)], sc := false }, true), nt]]) (rr := ii) (by kernel_rfl) (.cons (impl_compare_ok v_x.fMag v_y.fMag r1 h2) (.cons (Sc.n _ _ : Sc (.n .i64 r1)) (.cons h3 (.cons h4 (.cons (impl_minus_ok v_y.fMag v_x.fMag r5 h6) (.cons (impl_signed_ok v_y.fNeg r5 r7 h8) .nil)))))))))

def impl_BigInt_minus (v_x : TBigInt) (v_y : TBigInt) : Option TBigInt :=
  impl_BigInt_opposite v_y >>= fun r1 =>
  impl_BigInt_plus v_x r1 >>= fun r3 =>
  some r3

theorem impl_BigInt_minus_ok (v_x : TBigInt) (v_y : TBigInt) : Wp (impl_BigInt_minus v_x v_y) (fun r => Con PP 103 [.agg [.b v_x.fNeg, .isl 1 (v_x.fMag.map eI)], .agg [.b v_y.fNeg, .isl 1 (v_y.fMag.map eI)]] [] (.agg [.b r.fNeg, .isl 1 (r.fMag.map eI)]) []) := by
  unfold impl_BigInt_minus
  exact .bnd fun r1 h2 =>
    .bnd fun r3 h4 =>
    .ret (runF_con0 hmix (tape := [.reg [nt, nt, nt], .reg [nt, nt, (.call { ac := [ii], r := .agg [.b r1.fNeg, .isl 1 (r1.fMag.map eI)], sc := false }, true), (.call { ac := [ii, ii], r := .agg [.b r3.fNeg, .isl 1 (r3.fMag.map eI)], sc := false }, true), nt]]) (rr := ii) (by kernel_rfl) (.cons (impl_BigInt_opposite_ok v_y r1 h2) (.cons (impl_BigInt_plus_ok v_x r1 r3 h4) .nil)))

def impl_lowest (v_num : TBigInt) (v_den : (List Int)) : Option (Option TRatio_) :=
  if ((len_ eI v_num.fMag) == (0 : Int)) = true then
    some (some (⟨(⟨false, ([] : List Int)⟩ : TBigInt), ([1] : List Int)⟩ : TRatio_))
  else
    impl_divisor v_num.fMag v_den >>= fun r2 =>
    impl_compare r2 ([1] : List Int) >>= fun r4 =>
    if (r4 == (0 : Int)) = true then
      some (some (⟨v_num, v_den⟩ : TRatio_))
    else
      impl_over v_num.fMag r2 >>= fun r7 =>
      impl_over v_den r2 >>= fun r9 =>
      impl_signed v_num.fNeg r7.1 >>= fun r11 =>
      some (some (⟨r11, r9.1⟩ : TRatio_))

theorem impl_lowest_ok (v_num : TBigInt) (v_den : (List Int)) : Wp (impl_lowest v_num v_den) (fun r => Con PP 100 [.agg [.b v_num.fNeg, .isl 1 (v_num.fMag.map eI)], .isl 1 (v_den.map eI)] [] (aO 3 eTRatio_ r) []) := by
  unfold impl_lowest
  exact .ite (fun h1 =>
    .ret (runF_con0 hmix (tape := [.reg [nt, nt], .reg [nt, nt, nt, nt], .br true, .reg [nt, nt, nt, nt]]) (rr := .c1 (.ptro [.id, .nl 1, .sl (([1] : List Int).map eI)])) (by kernel_rfl) (.cons h1 (.cons (snap_full (show [[.n .i64 (1 : Int)]] = (([1] : List Int)).map eI from rfl) (show 1 = ([1] : List Int).length from rfl)) (.cons (fit_full (show [[.n .i64 (1 : Int)]] = (([1] : List Int)).map eI from rfl) (show 1 = ([1] : List Int).length from rfl)) (.cons (pure_map eI_pure ([1] : List Int)) (.cons (pure_es1 (eTRatio__pure (⟨(⟨false, ([] : List Int)⟩ : TBigInt), ([1] : List Int)⟩ : TRatio_)) : PureEs [[.b false, .isl 1 (([] : List Int).map eI), .isl 1 (([1] : List Int).map eI)]]) .nil)))))))
    (fun h1 =>
    .bnd fun r2 h3 =>
     .bnd fun r4 h5 =>
     .ite (fun h6 =>
     .ret (runF_con0 hmix (tape := [.reg [nt, nt], .reg [nt, nt, nt, nt], .br false, .reg [nt, nt, nt, (.call { ac := [ii, ii], r := .isl 1 (r2.map eI), sc := false }, true), nt], .reg [nt, nt, (.call { ac := [ii, .c1 (.c0 (.sl (([1] : List Int).map eI)))], rds := [12], r := .n .i64 r4, sc := true }, true), nt], .br true, .reg [nt, nt, nt, nt, nt]]) (rr := .c1 (.ptro [.id, .id, .id])) (by kernel_rfl) (.cons h1 (.cons (impl_divisor_ok v_num.fMag v_den r2 h3) (.cons (snap_full (show [[.n .i64 (1 : Int)]] = (([1] : List Int)).map eI from rfl) (show 1 = ([1] : List Int).length from rfl)) (.cons (fit_full (show [[.n .i64 (1 : Int)]] = (([1] : List Int)).map eI from rfl) (show 1 = ([1] : List Int).length from rfl)) (.cons (pure_map eI_pure ([1] : List Int)) (.cons (impl_compare_ok r2 ([1] : List Int) r4 h5) (.cons (Sc.n _ _ : Sc (.n .i64 r4)) (.cons h6 (.cons (pure_es1 (eTRatio__pure (⟨v_num, v_den⟩ : TRatio_)) : PureEs [[.b v_num.fNeg, .isl 1 (v_num.fMag.map eI), .isl 1 (v_den.map eI)]]) .nil)))))))))))
     (fun h6 =>
     .bnd fun r7 h8 =>
      .bnd fun r9 h10 =>
      .bnd fun r11 h12 =>
      .ret (runF_con0 hmix (tape := [.reg [nt, nt], .reg [nt, nt, nt, nt], .br false, .reg [nt, nt, nt, (.call { ac := [ii, ii], r := .isl 1 (r2.map eI), sc := false }, true), nt], .reg [nt, nt, (.call { ac := [ii, .c1 (.c0 (.sl (([1] : List Int).map eI)))], rds := [12], r := .n .i64 r4, sc := true }, true), nt], .br false, .reg [nt, nt, nt, (.call { ac := [ii, ii], r := .tup [.isl 1 (r7.1.map eI), .isl 1 (r7.2.map eI)], sc := false }, true), nt, nt, nt, nt, nt], .reg [nt, nt, (.call { ac := [ii, ii], r := .tup [.isl 1 (r9.1.map eI), .isl 1 (r9.2.map eI)], sc := false }, true), nt, nt, nt, nt, nt], .reg [nt, nt, nt, (.call { ac := [ii, ii], r := .agg [.b r11.fNeg, .isl 1 (r11.fMag.map eI)], sc := false }, true), nt, nt, nt, nt]]) (rr := .c1 (.ptro [.id, .id, .id])) (by kernel_rfl) (.cons h1 (.cons (impl_divisor_ok v_num.fMag v_den r2 h3) (.cons (snap_full (show [[.n .i64 (1 : Int)]] = (([1] : List Int)).map eI from rfl) (show 1 = ([1] : List Int).length from rfl)) (.cons (fit_full (show [[.n .i64 (1 : Int)]] = (([1] : List Int)).map eI from rfl) (show 1 = ([1] : List Int).length from rfl)) (.cons (pure_map eI_pure ([1] : List Int)) (.cons (impl_compare_ok r2 ([1] : List Int) r4 h5) (.cons (Sc.n _ _ : Sc (.n .i64 r4)) (.cons h6 (.cons (impl_over_ok v_num.fMag r2 r7 h8) (.cons (impl_over_ok v_den r2 r9 h10) (.cons (impl_signed_ok v_num.fNeg r7.1 r11 h12) (.cons (pure_es1 (eTRatio__pure (⟨r11, r9.1⟩ : TRatio_)) : PureEs [[.b r11.fNeg, .isl 1 (r11.fMag.map eI), .isl 1 (r9.1.map eI)]]) .nil)))))))))))))))

def impl_ratio_minus (v_x : (Option TRatio_)) (v_y : (Option TRatio_)) : Option (Option TRatio_) :=
  v_y >>= fun y1 =>
  impl_ratio_scaled v_x y1.gDen >>= fun r3 =>
  v_x >>= fun y5 =>
  impl_ratio_scaled v_y y5.gDen >>= fun r7 =>
  impl_BigInt_minus r3 r7 >>= fun r9 =>
  impl_times y5.gDen y1.gDen >>= fun r11 =>
  impl_lowest r9 r11 >>= fun r13 =>
  some r13

theorem impl_ratio_minus_ok (v_x : (Option TRatio_)) (v_y : (Option TRatio_)) : Wp (impl_ratio_minus v_x v_y) (fun r => Con PP 74 [aO 3 eTRatio_ v_x, aO 3 eTRatio_ v_y] [] (aO 3 eTRatio_ r) []) := by
  unfold impl_ratio_minus
  exact .bnd fun y1 h2 =>
    .bnd fun r3 h4 =>
    .bnd fun y5 h6 =>
    .bnd fun r7 h8 =>
    .bnd fun r9 h10 =>
    .bnd fun r11 h12 =>
    .bnd fun r13 h14 =>
    .ret (runF_con0 hmix (tape := [.reg [nt], .reg [nt, nt, (.re 6 (.ipo 3 (some (eTRatio_ y1))) .bd, true), nt, nt, (.call { ac := [ii, ii], r := .agg [.b r3.fNeg, .isl 1 (r3.fMag.map eI)], sc := false }, true), nt, nt, (.re 12 (.ipo 3 (some (eTRatio_ y5))) .bd, true), nt, nt, (.call { ac := [ii, ii], r := .agg [.b r7.fNeg, .isl 1 (r7.fMag.map eI)], sc := false }, true), (.call { ac := [ii, ii], r := .agg [.b r9.fNeg, .isl 1 (r9.fMag.map eI)], sc := false }, true), nt, (.re 18 (.ipo 3 (some (eTRatio_ y5))) .bd, true), nt, nt, nt, (.re 22 (.ipo 3 (some (eTRatio_ y1))) .bd, true), nt, nt, (.call { ac := [ii, ii], r := .isl 1 (r11.map eI), sc := false }, true), (.call { ac := [ii, ii], r := aO 3 eTRatio_ r13, sc := false }, true), nt]]) (rr := ii) (by kernel_rfl) (.cons (aO_some h2 : aO 3 eTRatio_ v_y = .ipo 3 (some (eTRatio_ y1))) (.cons (impl_ratio_scaled_ok v_x y1.gDen r3 h4) (.cons (aO_some h6 : aO 3 eTRatio_ v_x = .ipo 3 (some (eTRatio_ y5))) (.cons (impl_ratio_scaled_ok v_y y5.gDen r7 h8) (.cons (impl_BigInt_minus_ok r3 r7 r9 h10) (.cons (aO_some h6 : aO 3 eTRatio_ v_x = .ipo 3 (some (eTRatio_ y5))) (.cons (aO_some h2 : aO 3 eTRatio_ v_y = .ipo 3 (some (eTRatio_ y1))) (.cons (impl_times_ok y5.gDen y1.gDen r11 h12) (.cons (impl_lowest_ok r9 r11 r13 h14) .nil))))))))))

def impl_fit (v_x : (Option TRatio_)) : Option (Option TRatio_) :=
  v_x >>= fun y1 =>
  if (decide ((24 : Int) < (len_ eI y1.gNum.fMag))) = true then
    some (none : (Option TRatio_))
  else
    if (decide ((24 : Int) < (len_ eI y1.gDen))) = true then
      some (none : (Option TRatio_))
    else
      some v_x

theorem impl_fit_ok (v_x : (Option TRatio_)) : Wp (impl_fit v_x) (fun r => Con PP 71 [aO 3 eTRatio_ v_x] [] (aO 3 eTRatio_ r) []) := by
  unfold impl_fit
  exact .bnd fun y1 h2 =>
    .ite (fun h3 =>
    .ret (runF_con0 hmix (tape := [.reg [nt], .reg [nt, (.re 3 (.ipo 3 (some (eTRatio_ y1))) .bd, true), nt, nt, nt, nt, nt, nt, nf, nf, nf, nf, nf, nf, (.br true, true)], .br true, .reg [nt]]) (rr := .c1 (.c0 (.po 3))) (by kernel_rfl) (.cons (aO_some h2 : aO 3 eTRatio_ v_x = .ipo 3 (some (eTRatio_ y1))) (.cons h3 (.cons h3 (.cons h3 (.cons h3 (.cons h3 (.cons h3 (.cons h3 (.cons (rfl : true = true) .nil)))))))))))
    (fun h3 =>
    .ite (fun h4 =>
     .ret (runF_con0 hmix (tape := [.reg [nt], .reg [nt, (.re 3 (.ipo 3 (some (eTRatio_ y1))) .bd, true), nt, nt, nt, nt, nt, nt, nt, (.re 11 (.ipo 3 (some (eTRatio_ y1))) .bd, true), nt, nt, nt, nt, (.br false, true)], .br true, .reg [nt]]) (rr := .c1 (.c0 (.po 3))) (by kernel_rfl) (.cons (aO_some h2 : aO 3 eTRatio_ v_x = .ipo 3 (some (eTRatio_ y1))) (.cons h3 (.cons h3 (.cons (aO_some h2 : aO 3 eTRatio_ v_x = .ipo 3 (some (eTRatio_ y1))) (.cons h3 (.cons h3 (.cons h3 (.cons h3 (.cons h3 (.cons h4 .nil))))))))))))
     (fun h4 =>
     .ret (runF_con0 hmix (tape := [.reg [nt], .reg [nt, (.re 3 (.ipo 3 (some (eTRatio_ y1))) .bd, true), nt, nt, nt, nt, nt, nt, nt, (.re 11 (.ipo 3 (some (eTRatio_ y1))) .bd, true), nt, nt, nt, nt, (.br false, true)], .br false, .reg [nt, nt]]) (rr := ii) (by kernel_rfl) (.cons (aO_some h2 : aO 3 eTRatio_ v_x = .ipo 3 (some (eTRatio_ y1))) (.cons h3 (.cons h3 (.cons (aO_some h2 : aO 3 eTRatio_ v_x = .ipo 3 (some (eTRatio_ y1))) (.cons h3 (.cons h3 (.cons h3 (.cons h3 (.cons h3 (.cons h4 .nil)))))))))))))

def impl_sub (v_a : (Option TRatio_)) (v_b : (Option TRatio_)) : Option (Option TRatio_) :=
  v_a.elim
  (some (none : (Option TRatio_)))
  fun y2 =>
  v_b.elim
  (some (none : (Option TRatio_)))
  fun y4 =>
  impl_ratio_minus v_a v_b >>= fun r5 =>
  impl_fit r5 >>= fun r7 =>
  some r7

theorem impl_sub_ok (v_a : (Option TRatio_)) (v_b : (Option TRatio_)) : Wp (impl_sub v_a v_b) (fun r => Con PP 40 [aO 3 eTRatio_ v_a, aO 3 eTRatio_ v_b] [] (aO 3 eTRatio_ r) []) := by
  unfold impl_sub
  exact .opt (fun h1 =>
    .ret (runF_con0 hmix (tape := [.reg [nt], .reg [nt, (.re 5 (.ipo 3 none) .bd, true), nt, nf, nf, nt], .br true, .reg [nt]]) (rr := .c1 (.c0 (.po 3))) (by kernel_rfl) (.cons (aO_none h1 : aO 3 eTRatio_ v_a = .ipo 3 none) (.cons (rfl : true = true) (.cons (rfl : true = true) (.cons (rfl : true = true) .nil))))))
    (fun y2 h1 =>
    .opt (fun h3 =>
     .ret (runF_con0 hmix (tape := [.reg [nt], .reg [nt, (.re 5 (.ipo 3 (some (eTRatio_ y2))) .bd, true), nt, nt, (.re 8 (.ipo 3 none) .bd, true), nt], .br true, .reg [nt]]) (rr := .c1 (.c0 (.po 3))) (by kernel_rfl) (.cons (aO_some h1 : aO 3 eTRatio_ v_a = .ipo 3 (some (eTRatio_ y2))) (.cons (rfl : false = false) (.cons (rfl : false = false) (.cons (aO_none h3 : aO 3 eTRatio_ v_b = .ipo 3 none) (.cons (rfl : true = true) .nil)))))))
     (fun y4 h3 =>
     .bnd fun r5 h6 =>
      .bnd fun r7 h8 =>
      .ret (runF_con0 hmix (tape := [.reg [nt], .reg [nt, (.re 5 (.ipo 3 (some (eTRatio_ y2))) .bd, true), nt, nt, (.re 8 (.ipo 3 (some (eTRatio_ y4))) .bd, true), nt], .br false, .reg [nt, nt, (.call { ac := [ii, ii], r := aO 3 eTRatio_ r5, sc := false }, true), (.call { ac := [ii], r := aO 3 eTRatio_ r7, sc := false }, true), nt]]) (rr := ii) (by kernel_rfl) (.cons (aO_some h1 : aO 3 eTRatio_ v_a = .ipo 3 (some (eTRatio_ y2))) (.cons (rfl : false = false) (.cons (rfl : false = false) (.cons (aO_some h3 : aO 3 eTRatio_ v_b = .ipo 3 (some (eTRatio_ y4))) (.cons (rfl : false = false) (.cons (impl_ratio_minus_ok v_a v_b r5 h6) (.cons (impl_fit_ok r5 r7 h8) .nil))))))))))

def impl_BigInt_times (v_x : TBigInt) (v_y : TBigInt) : Option TBigInt :=
  impl_times v_x.fMag v_y.fMag >>= fun r1 =>
  impl_signed (!(v_x.fNeg == v_y.fNeg)) r1 >>= fun r3 =>
  some r3

theorem impl_BigInt_times_ok (v_x : TBigInt) (v_y : TBigInt) : Wp (impl_BigInt_times v_x v_y) (fun r => Con PP 102 [.agg [.b v_x.fNeg, .isl 1 (v_x.fMag.map eI)], .agg [.b v_y.fNeg, .isl 1 (v_y.fMag.map eI)]] [] (.agg [.b r.fNeg, .isl 1 (r.fMag.map eI)]) []) := by
  unfold impl_BigInt_times
  exact .bnd fun r1 h2 =>
    .bnd fun r3 h4 =>
    .ret (runF_con0 hmix (tape := [.reg [nt, nt, nt], .reg [nt, nt, nt, nt, nt, nt, nt, nt, nt, (.call { ac := [ii, ii], r := .isl 1 (r1.map eI), sc := false }, true), (.call { ac := [ii, ii], r := .agg [.b r3.fNeg, .isl 1 (r3.fMag.map eI)], sc := false }, true), nt]]) (rr := ii) (by kernel_rfl) (.cons (impl_times_ok v_x.fMag v_y.fMag r1 h2) (.cons (impl_signed_ok (!(v_x.fNeg == v_y.fNeg)) r1 r3 h4) .nil)))

def impl_ratio_times (v_x : (Option TRatio_)) (v_y : (Option TRatio_)) : Option (Option TRatio_) :=
  v_x >>= fun y1 =>
  v_y >>= fun y3 =>
  impl_BigInt_times y1.gNum y3.gNum >>= fun r5 =>
  impl_times y1.gDen y3.gDen >>= fun r7 =>
  impl_lowest r5 r7 >>= fun r9 =>
  some r9

theorem impl_ratio_times_ok (v_x : (Option TRatio_)) (v_y : (Option TRatio_)) : Wp (impl_ratio_times v_x v_y) (fun r => Con PP 73 [aO 3 eTRatio_ v_x, aO 3 eTRatio_ v_y] [] (aO 3 eTRatio_ r) []) := by
  unfold impl_ratio_times
  exact .bnd fun y1 h2 =>
    .bnd fun y3 h4 =>
    .bnd fun r5 h6 =>
    .bnd fun r7 h8 =>
    .bnd fun r9 h10 =>
    .ret (runF_con0 hmix (tape := [.reg [nt], .reg [nt, (.re 5 (.ipo 3 (some (eTRatio_ y1))) .bd, true), nt, nt, nt, (.re 9 (.ipo 3 (some (eTRatio_ y3))) .bd, true), nt, nt, (.call { ac := [ii, ii], r := .agg [.b r5.fNeg, .isl 1 (r5.fMag.map eI)], sc := false }, true), nt, (.re 14 (.ipo 3 (some (eTRatio_ y1))) .bd, true), nt, nt, nt, (.re 18 (.ipo 3 (some (eTRatio_ y3))) .bd, true), nt, nt, (.call { ac := [ii, ii], r := .isl 1 (r7.map eI), sc := false }, true), (.call { ac := [ii, ii], r := aO 3 eTRatio_ r9, sc := false }, true), nt]]) (rr := ii) (by kernel_rfl) (.cons (aO_some h2 : aO 3 eTRatio_ v_x = .ipo 3 (some (eTRatio_ y1))) (.cons (aO_some h4 : aO 3 eTRatio_ v_y = .ipo 3 (some (eTRatio_ y3))) (.cons (impl_BigInt_times_ok y1.gNum y3.gNum r5 h6) (.cons (aO_some h2 : aO 3 eTRatio_ v_x = .ipo 3 (some (eTRatio_ y1))) (.cons (aO_some h4 : aO 3 eTRatio_ v_y = .ipo 3 (some (eTRatio_ y3))) (.cons (impl_times_ok y1.gDen y3.gDen r7 h8) (.cons (impl_lowest_ok r5 r7 r9 h10) .nil))))))))

def impl_mul (v_a : (Option TRatio_)) (v_b : (Option TRatio_)) : Option (Option TRatio_) :=
  v_a.elim
  (some (none : (Option TRatio_)))
  fun y2 =>
  v_b.elim
  (some (none : (Option TRatio_)))
  fun y4 =>
  impl_ratio_times v_a v_b >>= fun r5 =>
  impl_fit r5 >>= fun r7 =>
  some r7

theorem impl_mul_ok (v_a : (Option TRatio_)) (v_b : (Option TRatio_)) : Wp (impl_mul v_a v_b) (fun r => Con PP 39 [aO 3 eTRatio_ v_a, aO 3 eTRatio_ v_b] [] (aO 3 eTRatio_ r) []) := by
  unfold impl_mul
  exact .opt (fun h1 =>
    .ret (runF_con0 hmix (tape := [.reg [nt], .reg [nt, (.re 5 (.ipo 3 none) .bd, true), nt, nf, nf, nt], .br true, .reg [nt]]) (rr := .c1 (.c0 (.po 3))) (by kernel_rfl) (.cons (aO_none h1 : aO 3 eTRatio_ v_a = .ipo 3 none) (.cons (rfl : true = true) (.cons (rfl : true = true) (.cons (rfl : true = true) .nil))))))
    (fun y2 h1 =>
    .opt (fun h3 =>
     .ret (runF_con0 hmix (tape := [.reg [nt], .reg [nt, (.re 5 (.ipo 3 (some (eTRatio_ y2))) .bd, true), nt, nt, (.re 8 (.ipo 3 none) .bd, true), nt], .br true, .reg [nt]]) (rr := .c1 (.c0 (.po 3))) (by kernel_rfl) (.cons (aO_some h1 : aO 3 eTRatio_ v_a = .ipo 3 (some (eTRatio_ y2))) (.cons (rfl : false = false) (.cons (rfl : false = false) (.cons (aO_none h3 : aO 3 eTRatio_ v_b = .ipo 3 none) (.cons (rfl : true = true) .nil)))))))
     (fun y4 h3 =>
     .bnd fun r5 h6 =>
      .bnd fun r7 h8 =>
      .ret (runF_con0 hmix (tape := [.reg [nt], .reg [nt, (.re 5 (.ipo 3 (some (eTRatio_ y2))) .bd, true), nt, nt, (.re 8 (.ipo 3 (some (eTRatio_ y4))) .bd, true), nt], .br false, .reg [nt, nt, (.call { ac := [ii, ii], r := aO 3 eTRatio_ r5, sc := false }, true), (.call { ac := [ii], r := aO 3 eTRatio_ r7, sc := false }, true), nt]]) (rr := ii) (by kernel_rfl) (.cons (aO_some h1 : aO 3 eTRatio_ v_a = .ipo 3 (some (eTRatio_ y2))) (.cons (rfl : false = false) (.cons (rfl : false = false) (.cons (aO_some h3 : aO 3 eTRatio_ v_b = .ipo 3 (some (eTRatio_ y4))) (.cons (rfl : false = false) (.cons (impl_ratio_times_ok v_a v_b r5 h6) (.cons (impl_fit_ok r5 r7 h8) .nil))))))))))

def impl_ratio_plus (v_x : (Option TRatio_)) (v_y : (Option TRatio_)) : Option (Option TRatio_) :=
  v_y >>= fun y1 =>
  impl_ratio_scaled v_x y1.gDen >>= fun r3 =>
  v_x >>= fun y5 =>
  impl_ratio_scaled v_y y5.gDen >>= fun r7 =>
  impl_BigInt_plus r3 r7 >>= fun r9 =>
  impl_times y5.gDen y1.gDen >>= fun r11 =>
  impl_lowest r9 r11 >>= fun r13 =>
  some r13

theorem impl_ratio_plus_ok (v_x : (Option TRatio_)) (v_y : (Option TRatio_)) : Wp (impl_ratio_plus v_x v_y) (fun r => Con PP 72 [aO 3 eTRatio_ v_x, aO 3 eTRatio_ v_y] [] (aO 3 eTRatio_ r) []) := by
  unfold impl_ratio_plus
  exact .bnd fun y1 h2 =>
    .bnd fun r3 h4 =>
    .bnd fun y5 h6 =>
    .bnd fun r7 h8 =>
    .bnd fun r9 h10 =>
    .bnd fun r11 h12 =>
    .bnd fun r13 h14 =>
    .ret (runF_con0 hmix (tape := [.reg [nt], .reg [nt, nt, (.re 6 (.ipo 3 (some (eTRatio_ y1))) .bd, true), nt, nt, (.call { ac := [ii, ii], r := .agg [.b r3.fNeg, .isl 1 (r3.fMag.map eI)], sc := false }, true), nt, nt, (.re 12 (.ipo 3 (some (eTRatio_ y5))) .bd, true), nt, nt, (.call { ac := [ii, ii], r := .agg [.b r7.fNeg, .isl 1 (r7.fMag.map eI)], sc := false }, true), (.call { ac := [ii, ii], r := .agg [.b r9.fNeg, .isl 1 (r9.fMag.map eI)], sc := false }, true), nt, (.re 18 (.ipo 3 (some (eTRatio_ y5))) .bd, true), nt, nt, nt, (.re 22 (.ipo 3 (some (eTRatio_ y1))) .bd, true), nt, nt, (.call { ac := [ii, ii], r := .isl 1 (r11.map eI), sc := false }, true), (.call { ac := [ii, ii], r := aO 3 eTRatio_ r13, sc := false }, true), nt]]) (rr := ii) (by kernel_rfl) (.cons (aO_some h2 : aO 3 eTRatio_ v_y = .ipo 3 (some (eTRatio_ y1))) (.cons (impl_ratio_scaled_ok v_x y1.gDen r3 h4) (.cons (aO_some h6 : aO 3 eTRatio_ v_x = .ipo 3 (some (eTRatio_ y5))) (.cons (impl_ratio_scaled_ok v_y y5.gDen r7 h8) (.cons (impl_BigInt_plus_ok r3 r7 r9 h10) (.cons (aO_some h6 : aO 3 eTRatio_ v_x = .ipo 3 (some (eTRatio_ y5))) (.cons (aO_some h2 : aO 3 eTRatio_ v_y = .ipo 3 (some (eTRatio_ y1))) (.cons (impl_times_ok y5.gDen y1.gDen r11 h12) (.cons (impl_lowest_ok r9 r11 r13 h14) .nil))))))))))

def impl_add (v_a : (Option TRatio_)) (v_b : (Option TRatio_)) : Option (Option TRatio_) :=
  v_a.elim
  (some (none : (Option TRatio_)))
  fun y2 =>
  v_b.elim
  (some (none : (Option TRatio_)))
  fun y4 =>
  impl_ratio_plus v_a v_b >>= fun r5 =>
  impl_fit r5 >>= fun r7 =>
  some r7

theorem impl_add_ok (v_a : (Option TRatio_)) (v_b : (Option TRatio_)) : Wp (impl_add v_a v_b) (fun r => Con PP 38 [aO 3 eTRatio_ v_a, aO 3 eTRatio_ v_b] [] (aO 3 eTRatio_ r) []) := by
  unfold impl_add
  exact .opt (fun h1 =>
    .ret (runF_con0 hmix (tape := [.reg [nt], .reg [nt, (.re 5 (.ipo 3 none) .bd, true), nt, nf, nf, nt], .br true, .reg [nt]]) (rr := .c1 (.c0 (.po 3))) (by kernel_rfl) (.cons (aO_none h1 : aO 3 eTRatio_ v_a = .ipo 3 none) (.cons (rfl : true = true) (.cons (rfl : true = true) (.cons (rfl : true = true) .nil))))))
    (fun y2 h1 =>
    .opt (fun h3 =>
     .ret (runF_con0 hmix (tape := [.reg [nt], .reg [nt, (.re 5 (.ipo 3 (some (eTRatio_ y2))) .bd, true), nt, nt, (.re 8 (.ipo 3 none) .bd, true), nt], .br true, .reg [nt]]) (rr := .c1 (.c0 (.po 3))) (by kernel_rfl) (.cons (aO_some h1 : aO 3 eTRatio_ v_a = .ipo 3 (some (eTRatio_ y2))) (.cons (rfl : false = false) (.cons (rfl : false = false) (.cons (aO_none h3 : aO 3 eTRatio_ v_b = .ipo 3 none) (.cons (rfl : true = true) .nil)))))))
     (fun y4 h3 =>
     .bnd fun r5 h6 =>
      .bnd fun r7 h8 =>
      .ret (runF_con0 hmix (tape := [.reg [nt], .reg [nt, (.re 5 (.ipo 3 (some (eTRatio_ y2))) .bd, true), nt, nt, (.re 8 (.ipo 3 (some (eTRatio_ y4))) .bd, true), nt], .br false, .reg [nt, nt, (.call { ac := [ii, ii], r := aO 3 eTRatio_ r5, sc := false }, true), (.call { ac := [ii], r := aO 3 eTRatio_ r7, sc := false }, true), nt]]) (rr := ii) (by kernel_rfl) (.cons (aO_some h1 : aO 3 eTRatio_ v_a = .ipo 3 (some (eTRatio_ y2))) (.cons (rfl : false = false) (.cons (rfl : false = false) (.cons (aO_some h3 : aO 3 eTRatio_ v_b = .ipo 3 (some (eTRatio_ y4))) (.cons (rfl : false = false) (.cons (impl_ratio_plus_ok v_a v_b r5 h6) (.cons (impl_fit_ok r5 r7 h8) .nil))))))))))

def impl_BigInt_sign (v_x : TBigInt) : Option Int :=
  if ((len_ eI v_x.fMag) == (0 : Int)) = true then
    some 0
  else
    if v_x.fNeg = true then
      some (-1)
    else
      some 1

theorem impl_BigInt_sign_ok (v_x : TBigInt) : Wp (impl_BigInt_sign v_x) (fun r => Con PP 104 [.agg [.b v_x.fNeg, .isl 1 (v_x.fMag.map eI)]] [] (.n .i64 r) []) := by
  unfold impl_BigInt_sign
  exact .ite (fun h1 =>
    .ret (runF_con0 hmix (tape := [.reg [nt, nt], .reg [nt, nt, nt, nt, nt], .br true, .reg [nt]]) (rr := ii) (by kernel_rfl) (.cons h1 .nil)))
    (fun h1 =>
    .ite (fun h2 =>
     .ret (runF_con0 hmix (tape := [.reg [nt, nt], .reg [nt, nt, nt, nt, nt], .br false, .reg [nt, nt, nt], .br true, .reg [nt]]) (rr := ii) (by kernel_rfl) (.cons h1 (.cons h2 .nil))))
     (fun h2 =>
     .ret (runF_con0 hmix (tape := [.reg [nt, nt], .reg [nt, nt, nt, nt, nt], .br false, .reg [nt, nt, nt], .br false, .reg [nt]]) (rr := ii) (by kernel_rfl) (.cons h1 (.cons h2 .nil)))))

def impl_ratio_Sign (v_x : (Option TRatio_)) : Option Int :=
  v_x >>= fun y1 =>
  impl_BigInt_sign y1.gNum >>= fun r3 =>
  some r3

theorem impl_ratio_Sign_ok (v_x : (Option TRatio_)) : Wp (impl_ratio_Sign v_x) (fun r => Con PP 75 [aO 3 eTRatio_ v_x] [] (.n .i64 r) []) := by
  unfold impl_ratio_Sign
  exact .bnd fun y1 h2 =>
    .bnd fun r3 h4 =>
    .ret (runF_con0 hmix (tape := [.reg [nt], .reg [nt, (.re 3 (.ipo 3 (some (eTRatio_ y1))) .bd, true), nt, nt, (.call { ac := [ii], r := .n .i64 r3, sc := true }, true), nt]]) (rr := ii) (by kernel_rfl) (.cons (aO_some h2 : aO 3 eTRatio_ v_x = .ipo 3 (some (eTRatio_ y1))) (.cons (impl_BigInt_sign_ok y1.gNum r3 h4) (.cons (Sc.n _ _ : Sc (.n .i64 r3)) .nil))))

def impl_isZero (v_x : (Option TRatio_)) : Option Bool :=
  v_x.elim
  (some false)
  fun y2 =>
  impl_ratio_Sign v_x >>= fun r3 =>
  some (r3 == (0 : Int))

theorem impl_isZero_ok (v_x : (Option TRatio_)) : Wp (impl_isZero v_x) (fun r => Con PP 41 [aO 3 eTRatio_ v_x] [] (.b r) []) := by
  unfold impl_isZero
  exact .opt (fun h1 =>
    .ret (runF_con0 hmix (tape := [.reg [nt], .reg [nt, (.re 3 (.ipo 3 none) .bd, true), nt, nf, nf, nf, nt, nt]]) (rr := ii) (by kernel_rfl) (.cons (aO_none h1 : aO 3 eTRatio_ v_x = .ipo 3 none) (.cons (rfl : false = false) (.cons (rfl : false = false) (.cons (rfl : false = false) .nil))))))
    (fun y2 h1 =>
    .bnd fun r3 h4 =>
     .ret (runF_con0 hmix (tape := [.reg [nt], .reg [nt, (.re 3 (.ipo 3 (some (eTRatio_ y2))) .bd, true), nt, nt, (.call { ac := [ii], r := .n .i64 r3, sc := true }, true), nt, nt, nt]]) (rr := ii) (by kernel_rfl) (.cons (aO_some h1 : aO 3 eTRatio_ v_x = .ipo 3 (some (eTRatio_ y2))) (.cons (rfl : true = true) (.cons (rfl : true = true) (.cons (impl_ratio_Sign_ok v_x r3 h4) (.cons (Sc.n _ _ : Sc (.n .i64 r3)) (.cons (rfl : true = true) .nil))))))))

def impl_IsForm_L5_head (v_l : (List Int)) (v_list : (List (Option TRatio_))) (v_at : (List (Option TRatio_))) (v_j : Int) (v_axis : Int) (v_t44 : (List TJoint)) (v_t45 : Int) (v_t78 : (List TMember)) (v_t79 : Int) (box1_ : ByteArray) (box1_' : Int) (box1_'' : Int) (box1_''' : Bool) (v_sum : (Option TRatio_)) (v_t80 : Int) : S := mkS [(1, .isl 1 (v_l.map eI)), (4, .ref 0 0 0 0), (9, .isl 1 (v_list.map (eO 3 eTRatio_))), (11, .isl 1 (v_at.map (eO 3 eTRatio_))), (13, .n .i64 v_j), (14, .ref 1 0 0 0), (15, .n .i64 v_axis), (16, aO 3 eTRatio_ v_sum), (44, .isl 4 (v_t44.map eTJoint)), (45, .n .i64 v_t45), (46, .n .i64 v_j), (51, .n .i64 v_axis), (78, .isl 3 (v_t78.map eTMember)), (79, .n .i64 v_t79), (80, .n .i64 v_t80)] [[Ob.mk 2 [[.isl 4 (v_t44.map eTJoint), .isl 3 (v_t78.map eTMember)]] .frz], [Ob.mk 4 [[.s box1_, .n .i64 box1_', .n .i64 box1_'', .b box1_''']] .live]]

def impl_IsForm_L5_ex : (Option TRatio_) → Exit
  | _ => .exit 4

def impl_IsForm_L5_out (v_l : (List Int)) (v_list : (List (Option TRatio_))) (v_at : (List (Option TRatio_))) (v_j : Int) (v_axis : Int) (v_t44 : (List TJoint)) (v_t45 : Int) (v_t78 : (List TMember)) (v_t79 : Int) (box1_ : ByteArray) (box1_' : Int) (box1_'' : Int) (box1_''' : Bool) : (Option TRatio_) → S
  | a => mkS [(1, .isl 1 (v_l.map eI)), (4, .ref 0 0 0 0), (9, .isl 1 (v_list.map (eO 3 eTRatio_))), (11, .isl 1 (v_at.map (eO 3 eTRatio_))), (13, .n .i64 v_j), (14, .ref 1 0 0 0), (16, aO 3 eTRatio_ a), (44, .isl 4 (v_t44.map eTJoint)), (45, .n .i64 v_t45), (46, .n .i64 v_j), (51, .n .i64 v_axis)] [[Ob.mk 2 [[.isl 4 (v_t44.map eTJoint), .isl 3 (v_t78.map eTMember)]] .frz], [Ob.mk 4 [[.s box1_, .n .i64 box1_', .n .i64 box1_'', .b box1_''']] .live]]

def impl_IsForm_L5_body (v_l : (List Int)) (v_list : (List (Option TRatio_))) (v_at : (List (Option TRatio_))) (v_j : Int) (v_axis : Int) (v_t44 : (List TJoint)) (v_t45 : Int) (v_t78 : (List TMember)) (v_t79 : Int) (box1_ : ByteArray) (box1_' : Int) (box1_'' : Int) (box1_''' : Bool) (v_sum : (Option TRatio_)) (v_t80 : Int) : Option (((Option TRatio_) × Int) ⊕ ((Option TRatio_))) :=
  if (decide (v_t80 < v_t79)) = true then
    if 0 ≤ v_t80 ∧ v_t80 < v_t78.length then
    v_t78[v_t80.toNat]? >>= fun x3 =>
    impl_Member_other x3 v_j >>= fun r5 =>
    if (decide ((0 : Int) ≤ r5)) = true then
      if 0 ≤ v_t80 ∧ v_t80 < v_list.length then
      v_list[v_t80.toNat]? >>= fun x9 =>
      if 0 ≤ (w64 ((w64 ((2 : Int) * r5)) + v_axis)) ∧ (w64 ((w64 ((2 : Int) * r5)) + v_axis)) < v_at.length then
      v_at[(w64 ((w64 ((2 : Int) * r5)) + v_axis)).toNat]? >>= fun x12 =>
      if 0 ≤ (w64 ((w64 ((2 : Int) * v_j)) + v_axis)) ∧ (w64 ((w64 ((2 : Int) * v_j)) + v_axis)) < v_at.length then
      v_at[(w64 ((w64 ((2 : Int) * v_j)) + v_axis)).toNat]? >>= fun x15 =>
      impl_sub x12 x15 >>= fun r17 =>
      impl_mul x9 r17 >>= fun r19 =>
      impl_add v_sum r19 >>= fun r21 =>
      some (.inl (r21, w64 (v_t80 + (1 : Int))))
      else none
      else none
      else none
    else
      some (.inl (v_sum, w64 (v_t80 + (1 : Int))))
    else none
  else
    some (.inr v_sum)

def impl_IsForm_L5 (v_l : (List Int)) (v_list : (List (Option TRatio_))) (v_at : (List (Option TRatio_))) (v_j : Int) (v_axis : Int) (v_t44 : (List TJoint)) (v_t45 : Int) (v_t78 : (List TMember)) (v_t79 : Int) (box1_ : ByteArray) (box1_' : Int) (box1_'' : Int) (box1_''' : Bool) (v_sum : (Option TRatio_)) (v_t80 : Int) : Option ((Option TRatio_)) := iter (fun w : (Option TRatio_) × Int => impl_IsForm_L5_body v_l v_list v_at v_j v_axis v_t44 v_t45 v_t78 v_t79 box1_ box1_' box1_'' box1_''' w.1 w.2) (v_sum, v_t80)

theorem impl_IsForm_L5_body_ok (v_l : (List Int)) (v_list : (List (Option TRatio_))) (v_at : (List (Option TRatio_))) (v_j : Int) (v_axis : Int) (v_t44 : (List TJoint)) (v_t45 : Int) (v_t78 : (List TMember)) (v_t79 : Int) (box1_ : ByteArray) (box1_' : Int) (box1_'' : Int) (box1_''' : Bool) (v_sum : (Option TRatio_)) (v_t80 : Int) : Wp (impl_IsForm_L5_body v_l v_list v_at v_j v_axis v_t44 v_t45 v_t78 v_t79 box1_ box1_' box1_'' box1_''' v_sum v_t80) (Sum.elim
    (fun w => VEx PP 118 0 (nodeAt (bodyOf PP 10) [1, 1, 1, 1, 1, 0, 1, 0, 0, 1, 1, 0, 0, 1, 1, 0, 0, 1, 1, 0, 0, 1, 1, 1, 0, 1, 0, 0]) .normal (impl_IsForm_L5_head v_l v_list v_at v_j v_axis v_t44 v_t45 v_t78 v_t79 box1_ box1_' box1_'' box1_''' v_sum v_t80) (impl_IsForm_L5_head v_l v_list v_at v_j v_axis v_t44 v_t45 v_t78 v_t79 box1_ box1_' box1_'' box1_''' w.1 w.2))
    (fun r => VEx PP 118 0 (nodeAt (bodyOf PP 10) [1, 1, 1, 1, 1, 0, 1, 0, 0, 1, 1, 0, 0, 1, 1, 0, 0, 1, 1, 0, 0, 1, 1, 1, 0, 1, 0, 0]) (impl_IsForm_L5_ex r) (impl_IsForm_L5_head v_l v_list v_at v_j v_axis v_t44 v_t45 v_t78 v_t79 box1_ box1_' box1_'' box1_''' v_sum v_t80) (impl_IsForm_L5_out v_l v_list v_at v_j v_axis v_t44 v_t45 v_t78 v_t79 box1_ box1_' box1_'' box1_''' r))) := by
  unfold impl_IsForm_L5_body
  exact .ite (fun h1 =>
      .grd fun h2 =>
       .bnd fun x3 h4 =>
       .bnd fun r5 h6 =>
       .ite (fun h7 =>
       .grd fun h8 =>
        .bnd fun x9 h10 =>
        .grd fun h11 =>
        .bnd fun x12 h13 =>
        .grd fun h14 =>
        .bnd fun x15 h16 =>
        .bnd fun r17 h18 =>
        .bnd fun r19 h20 =>
        .bnd fun r21 h22 =>
        .ret ((okC_sound hmix (tape := [.reg [nt], .br true, .reg [nt, nt, (.el (eTMember x3), true), nt, nt, nt], .reg [nt, nt, (.call { ac := [ii, ii], r := .n .i64 r5, sc := true }, true), nt], .reg [nt, nt], .br true, .reg [nt, nt, nt, nt, (.el ((eO 3 eTRatio_) x9), true), nt, nt, nt, nt, nt, nt, (.el ((eO 3 eTRatio_) x12), true), nt, nt, nt, nt, nt, nt, (.el ((eO 3 eTRatio_) x15), true), (.call { ac := [ii, ii], r := aO 3 eTRatio_ r17, sc := false }, true), (.call { ac := [ii, ii], r := aO 3 eTRatio_ r19, sc := false }, true), (.call { ac := [ii, ii], r := aO 3 eTRatio_ r21, sc := false }, true), nt], .reg [nt, nt], .rst [0, 1] [.box [.id, .id], .box [.id, .id, .id, .id]] [(1, ii), (4, ii), (9, ii), (11, ii), (13, ii), (14, ii), (15, ii), (16, ii), (44, ii), (45, ii), (46, ii), (51, ii), (78, ii), (79, ii), (80, ii)]]) (nr := 2) (by kernel_rfl) (.cons h1 (.cons ((h2).1) (.cons (lt_mapI (h2).2 : v_t80 < ((v_t78.map eTMember).length : Nat)) (.cons (map_get h4 : (v_t78.map eTMember)[v_t80.toNat]? = some (eTMember x3)) (.cons (impl_Member_other_ok x3 v_j r5 h6) (.cons (Sc.n _ _ : Sc (.n .i64 r5)) (.cons h7 (.cons ((h8).1) (.cons (lt_mapI (h8).2 : v_t80 < ((v_list.map (eO 3 eTRatio_)).length : Nat)) (.cons (map_get h10 : (v_list.map (eO 3 eTRatio_))[v_t80.toNat]? = some ((eO 3 eTRatio_) x9)) (.cons ((h11).1) (.cons (lt_mapI (h11).2 : (w64 ((w64 ((2 : Int) * r5)) + v_axis)) < ((v_at.map (eO 3 eTRatio_)).length : Nat)) (.cons (map_get h13 : (v_at.map (eO 3 eTRatio_))[(w64 ((w64 ((2 : Int) * r5)) + v_axis)).toNat]? = some ((eO 3 eTRatio_) x12)) (.cons ((h14).1) (.cons (lt_mapI (h14).2 : (w64 ((w64 ((2 : Int) * v_j)) + v_axis)) < ((v_at.map (eO 3 eTRatio_)).length : Nat)) (.cons (map_get h16 : (v_at.map (eO 3 eTRatio_))[(w64 ((w64 ((2 : Int) * v_j)) + v_axis)).toNat]? = some ((eO 3 eTRatio_) x15)) (.cons (impl_sub_ok x12 x15 r17 h18) (.cons (impl_mul_ok x9 r17 r19 h20) (.cons (impl_add_ok v_sum r19 r21 h22) .nil))))))))))))))))))) (mkS_free _ _) : VEx PP 118 0 (nodeAt (bodyOf PP 10) [1, 1, 1, 1, 1, 0, 1, 0, 0, 1, 1, 0, 0, 1, 1, 0, 0, 1, 1, 0, 0, 1, 1, 1, 0, 1, 0, 0]) .normal (impl_IsForm_L5_head v_l v_list v_at v_j v_axis v_t44 v_t45 v_t78 v_t79 box1_ box1_' box1_'' box1_''' v_sum v_t80) (impl_IsForm_L5_head v_l v_list v_at v_j v_axis v_t44 v_t45 v_t78 v_t79 box1_ box1_' box1_'' box1_''' r21 (w64 (v_t80 + (1 : Int)))))))
       (fun h7 =>
       .ret ((okC_sound hmix (tape := [.reg [nt], .br true, .reg [nt, nt, (.el (eTMember x3), true), nt, nt, nt], .reg [nt, nt, (.call { ac := [ii, ii], r := .n .i64 r5, sc := true }, true), nt], .reg [nt, nt], .br false, .reg [nt, nt], .rst [0, 1] [.box [.id, .id], .box [.id, .id, .id, .id]] [(1, ii), (4, ii), (9, ii), (11, ii), (13, ii), (14, ii), (15, ii), (16, ii), (44, ii), (45, ii), (46, ii), (51, ii), (78, ii), (79, ii), (80, ii)]]) (nr := 2) (by kernel_rfl) (.cons h1 (.cons ((h2).1) (.cons (lt_mapI (h2).2 : v_t80 < ((v_t78.map eTMember).length : Nat)) (.cons (map_get h4 : (v_t78.map eTMember)[v_t80.toNat]? = some (eTMember x3)) (.cons (impl_Member_other_ok x3 v_j r5 h6) (.cons (Sc.n _ _ : Sc (.n .i64 r5)) (.cons h7 .nil))))))) (mkS_free _ _) : VEx PP 118 0 (nodeAt (bodyOf PP 10) [1, 1, 1, 1, 1, 0, 1, 0, 0, 1, 1, 0, 0, 1, 1, 0, 0, 1, 1, 0, 0, 1, 1, 1, 0, 1, 0, 0]) .normal (impl_IsForm_L5_head v_l v_list v_at v_j v_axis v_t44 v_t45 v_t78 v_t79 box1_ box1_' box1_'' box1_''' v_sum v_t80) (impl_IsForm_L5_head v_l v_list v_at v_j v_axis v_t44 v_t45 v_t78 v_t79 box1_ box1_' box1_'' box1_''' v_sum (w64 (v_t80 + (1 : Int))))))))
      (fun h1 =>
      .ret ((okC_sound hmix (tape := [.reg [nt], .br false, .rst [0, 1] [.box [.id, .id], .box [.id, .id, .id, .id]] [(1, ii), (4, ii), (9, ii), (11, ii), (13, ii), (14, ii), (16, ii), (44, ii), (45, ii), (46, ii), (51, ii)]]) (nr := 2) (by kernel_rfl) (.cons h1 .nil) (mkS_free _ _) : VEx PP 118 0 (nodeAt (bodyOf PP 10) [1, 1, 1, 1, 1, 0, 1, 0, 0, 1, 1, 0, 0, 1, 1, 0, 0, 1, 1, 0, 0, 1, 1, 1, 0, 1, 0, 0]) (.exit 4) (impl_IsForm_L5_head v_l v_list v_at v_j v_axis v_t44 v_t45 v_t78 v_t79 box1_ box1_' box1_'' box1_''' v_sum v_t80) (impl_IsForm_L5_out v_l v_list v_at v_j v_axis v_t44 v_t45 v_t78 v_t79 box1_ box1_' box1_'' box1_''' v_sum))))

theorem impl_IsForm_L5_ok (v_l : (List Int)) (v_list : (List (Option TRatio_))) (v_at : (List (Option TRatio_))) (v_j : Int) (v_axis : Int) (v_t44 : (List TJoint)) (v_t45 : Int) (v_t78 : (List TMember)) (v_t79 : Int) (box1_ : ByteArray) (box1_' : Int) (box1_'' : Int) (box1_''' : Bool) (v_sum : (Option TRatio_)) (v_t80 : Int) : ∀ r, impl_IsForm_L5 v_l v_list v_at v_j v_axis v_t44 v_t45 v_t78 v_t79 box1_ box1_' box1_'' box1_''' v_sum v_t80 = some r → VLoop PP 118 0 (nodeAt (bodyOf PP 10) [1, 1, 1, 1, 1, 0, 1, 0, 0, 1, 1, 0, 0, 1, 1, 0, 0, 1, 1, 0, 0, 1, 1, 1, 0, 1, 0, 0]) (impl_IsForm_L5_ex r) (impl_IsForm_L5_head v_l v_list v_at v_j v_axis v_t44 v_t45 v_t78 v_t79 box1_ box1_' box1_'' box1_''' v_sum v_t80) (impl_IsForm_L5_out v_l v_list v_at v_j v_axis v_t44 v_t45 v_t78 v_t79 box1_ box1_' box1_'' box1_''' r) := fun r h =>
  iter_ok (head := fun w : (Option TRatio_) × Int => impl_IsForm_L5_head v_l v_list v_at v_j v_axis v_t44 v_t45 v_t78 v_t79 box1_ box1_' box1_'' box1_''' w.1 w.2) (ex := impl_IsForm_L5_ex) (out := impl_IsForm_L5_out v_l v_list v_at v_j v_axis v_t44 v_t45 v_t78 v_t79 box1_ box1_' box1_'' box1_''') (by intro r; unfold impl_IsForm_L5_ex; split <;> simp) (fun w => impl_IsForm_L5_body_ok v_l v_list v_at v_j v_axis v_t44 v_t45 v_t78 v_t79 box1_ box1_' box1_'' box1_''' w.1 w.2) (v_sum, v_t80) r h

def impl_IsForm_L6_head (v_l : (List Int)) (v_list : (List (Option TRatio_))) (v_at : (List (Option TRatio_))) (v_j : Int) (v_t44 : (List TJoint)) (v_t45 : Int) (box0_' : (List TMember)) (box1_ : ByteArray) (box1_' : Int) (box1_'' : Int) (box1_''' : Bool) (v_t51 : Int) : S := mkS [(1, .isl 1 (v_l.map eI)), (4, .ref 0 0 0 0), (9, .isl 1 (v_list.map (eO 3 eTRatio_))), (11, .isl 1 (v_at.map (eO 3 eTRatio_))), (13, .n .i64 v_j), (14, .ref 1 0 0 0), (44, .isl 4 (v_t44.map eTJoint)), (45, .n .i64 v_t45), (46, .n .i64 v_j), (51, .n .i64 v_t51)] [[Ob.mk 2 [[.isl 4 (v_t44.map eTJoint), .isl 3 (box0_'.map eTMember)]] .frz], [Ob.mk 4 [[.s box1_, .n .i64 box1_', .n .i64 box1_'', .b box1_''']] .live]]

def impl_IsForm_L6_ex : ((Unit) ⊕ (Unit)) → Exit
  | .inl _ => .exit 2
  | .inr _ => .ret

def impl_IsForm_L6_out (v_l : (List Int)) (v_list : (List (Option TRatio_))) (v_at : (List (Option TRatio_))) (v_j : Int) (v_t44 : (List TJoint)) (v_t45 : Int) (box0_' : (List TMember)) (box1_ : ByteArray) (box1_' : Int) (box1_'' : Int) (box1_''' : Bool) : ((Unit) ⊕ (Unit)) → S
  | .inl a => mkS [(1, .isl 1 (v_l.map eI)), (4, .ref 0 0 0 0), (9, .isl 1 (v_list.map (eO 3 eTRatio_))), (11, .isl 1 (v_at.map (eO 3 eTRatio_))), (44, .isl 4 (v_t44.map eTJoint)), (45, .n .i64 v_t45), (46, .n .i64 v_j)] [[Ob.mk 2 [[.isl 4 (v_t44.map eTJoint), .isl 3 (box0_'.map eTMember)]] .frz]]
  | .inr a => mkS [(8, .b false)] []

def impl_IsForm_L6_body (v_l : (List Int)) (v_list : (List (Option TRatio_))) (v_at : (List (Option TRatio_))) (v_j : Int) (v_t44 : (List TJoint)) (v_t45 : Int) (box0_' : (List TMember)) (box1_ : ByteArray) (box1_' : Int) (box1_'' : Int) (box1_''' : Bool) (v_t51 : Int) : Option ((Int) ⊕ ((Unit) ⊕ (Unit))) :=
  if (decide (v_t51 < (2 : Int))) = true then
    if box1_''' = true then
      if 0 ≤ (w64 ((w64 ((2 : Int) * v_j)) + v_t51)) ∧ (w64 ((w64 ((2 : Int) * v_j)) + v_t51)) < v_at.length then
      v_at[(w64 ((w64 ((2 : Int) * v_j)) + v_t51)).toNat]? >>= fun x4 =>
      impl_Joint_place (⟨box1_, box1_', box1_'', box1_'''⟩ : TJoint) v_t51 >>= fun r6 =>
      impl_whole r6 >>= fun r8 =>
      impl_ratio_Cmp x4 r8 >>= fun r10 =>
      if (r10 != (0 : Int)) = true then
        some (.inr (.inr ()))
      else
        some (.inl (w64 (v_t51 + (1 : Int))))
      else none
    else
      if 0 ≤ (w64 ((w64 ((2 : Int) * v_j)) + v_t51)) ∧ (w64 ((w64 ((2 : Int) * v_j)) + v_t51)) < v_l.length then
      v_l[(w64 ((w64 ((2 : Int) * v_j)) + v_t51)).toNat]? >>= fun x4 =>
      impl_whole x4 >>= fun r6 =>
      impl_IsForm_L5 v_l v_list v_at v_j v_t51 v_t44 v_t45 box0_' (len_ eTMember box0_') box1_ box1_' box1_'' box1_''' r6 0 >>= fun r8 =>
      impl_isZero r8 >>= fun r10 =>
      if r10 = true then
        some (.inl (w64 (v_t51 + (1 : Int))))
      else
        some (.inr (.inr ()))
      else none
  else
    some (.inr (.inl ()))

def impl_IsForm_L6 (v_l : (List Int)) (v_list : (List (Option TRatio_))) (v_at : (List (Option TRatio_))) (v_j : Int) (v_t44 : (List TJoint)) (v_t45 : Int) (box0_' : (List TMember)) (box1_ : ByteArray) (box1_' : Int) (box1_'' : Int) (box1_''' : Bool) (v_t51 : Int) : Option ((Unit) ⊕ (Unit)) := iter (fun w : Int => impl_IsForm_L6_body v_l v_list v_at v_j v_t44 v_t45 box0_' box1_ box1_' box1_'' box1_''' w) v_t51

theorem impl_IsForm_L6_body_ok (v_l : (List Int)) (v_list : (List (Option TRatio_))) (v_at : (List (Option TRatio_))) (v_j : Int) (v_t44 : (List TJoint)) (v_t45 : Int) (box0_' : (List TMember)) (box1_ : ByteArray) (box1_' : Int) (box1_'' : Int) (box1_''' : Bool) (v_t51 : Int) : Wp (impl_IsForm_L6_body v_l v_list v_at v_j v_t44 v_t45 box0_' box1_ box1_' box1_'' box1_''' v_t51) (Sum.elim
    (fun w => VEx PP 118 0 (nodeAt (bodyOf PP 10) [1, 1, 1, 1, 1, 0, 1, 0, 0, 1, 1, 0, 0, 1, 1, 0, 0]) .normal (impl_IsForm_L6_head v_l v_list v_at v_j v_t44 v_t45 box0_' box1_ box1_' box1_'' box1_''' v_t51) (impl_IsForm_L6_head v_l v_list v_at v_j v_t44 v_t45 box0_' box1_ box1_' box1_'' box1_''' w))
    (fun r => VEx PP 118 0 (nodeAt (bodyOf PP 10) [1, 1, 1, 1, 1, 0, 1, 0, 0, 1, 1, 0, 0, 1, 1, 0, 0]) (impl_IsForm_L6_ex r) (impl_IsForm_L6_head v_l v_list v_at v_j v_t44 v_t45 box0_' box1_ box1_' box1_'' box1_''' v_t51) (impl_IsForm_L6_out v_l v_list v_at v_j v_t44 v_t45 box0_' box1_ box1_' box1_'' box1_''' r))) := by
  unfold impl_IsForm_L6_body
  exact .ite (fun h1 =>
      .ite (fun h2 =>
       .grd fun h3 =>
        .bnd fun x4 h5 =>
        .bnd fun r6 h7 =>
        .bnd fun r8 h9 =>
        .bnd fun r10 h11 =>
        .ite (fun h12 =>
        .ret ((okC_sound hmix (tape := [.reg [nt], .br true, .reg [nt, nt], .reg [nt, nt], .br true, .reg [nt, nt, nt, nt, nt, nt, (.el ((eO 3 eTRatio_) x4), true), nt, nt, (.call { ac := [ii, ii], r := .n .i64 r6, sc := true }, true), (.call { ac := [ii], r := aO 3 eTRatio_ r8, sc := false }, true), (.call { ac := [ii, ii], r := .n .i64 r10, sc := true }, true), nt], .br true, .reg [nt], .rst [] [] [(8, ii)]]) (nr := 2) (by kernel_rfl) (.cons h1 (.cons h2 (.cons ((h3).1) (.cons (lt_mapI (h3).2 : (w64 ((w64 ((2 : Int) * v_j)) + v_t51)) < ((v_at.map (eO 3 eTRatio_)).length : Nat)) (.cons (map_get h5 : (v_at.map (eO 3 eTRatio_))[(w64 ((w64 ((2 : Int) * v_j)) + v_t51)).toNat]? = some ((eO 3 eTRatio_) x4)) (.cons (impl_Joint_place_ok (⟨box1_, box1_', box1_'', box1_'''⟩ : TJoint) v_t51 r6 h7) (.cons (Sc.n _ _ : Sc (.n .i64 r6)) (.cons (impl_whole_ok r6 r8 h9) (.cons (impl_ratio_Cmp_ok x4 r8 r10 h11) (.cons (Sc.n _ _ : Sc (.n .i64 r10)) (.cons h12 .nil))))))))))) (mkS_free _ _) : VEx PP 118 0 (nodeAt (bodyOf PP 10) [1, 1, 1, 1, 1, 0, 1, 0, 0, 1, 1, 0, 0, 1, 1, 0, 0]) (.ret) (impl_IsForm_L6_head v_l v_list v_at v_j v_t44 v_t45 box0_' box1_ box1_' box1_'' box1_''' v_t51) (impl_IsForm_L6_out v_l v_list v_at v_j v_t44 v_t45 box0_' box1_ box1_' box1_'' box1_''' (.inr ())))))
        (fun h12 =>
        .ret ((okC_sound hmix (tape := [.reg [nt], .br true, .reg [nt, nt], .reg [nt, nt], .br true, .reg [nt, nt, nt, nt, nt, nt, (.el ((eO 3 eTRatio_) x4), true), nt, nt, (.call { ac := [ii, ii], r := .n .i64 r6, sc := true }, true), (.call { ac := [ii], r := aO 3 eTRatio_ r8, sc := false }, true), (.call { ac := [ii, ii], r := .n .i64 r10, sc := true }, true), nt], .br false, .reg [nt, nt], .rst [0, 1] [.box [.id, .id], .box [.id, .id, .id, .id]] [(1, ii), (4, ii), (9, ii), (11, ii), (13, ii), (14, ii), (44, ii), (45, ii), (46, ii), (51, ii)]]) (nr := 2) (by kernel_rfl) (.cons h1 (.cons h2 (.cons ((h3).1) (.cons (lt_mapI (h3).2 : (w64 ((w64 ((2 : Int) * v_j)) + v_t51)) < ((v_at.map (eO 3 eTRatio_)).length : Nat)) (.cons (map_get h5 : (v_at.map (eO 3 eTRatio_))[(w64 ((w64 ((2 : Int) * v_j)) + v_t51)).toNat]? = some ((eO 3 eTRatio_) x4)) (.cons (impl_Joint_place_ok (⟨box1_, box1_', box1_'', box1_'''⟩ : TJoint) v_t51 r6 h7) (.cons (Sc.n _ _ : Sc (.n .i64 r6)) (.cons (impl_whole_ok r6 r8 h9) (.cons (impl_ratio_Cmp_ok x4 r8 r10 h11) (.cons (Sc.n _ _ : Sc (.n .i64 r10)) (.cons h12 .nil))))))))))) (mkS_free _ _) : VEx PP 118 0 (nodeAt (bodyOf PP 10) [1, 1, 1, 1, 1, 0, 1, 0, 0, 1, 1, 0, 0, 1, 1, 0, 0]) .normal (impl_IsForm_L6_head v_l v_list v_at v_j v_t44 v_t45 box0_' box1_ box1_' box1_'' box1_''' v_t51) (impl_IsForm_L6_head v_l v_list v_at v_j v_t44 v_t45 box0_' box1_ box1_' box1_'' box1_''' (w64 (v_t51 + (1 : Int))))))))
       (fun h2 =>
       .grd fun h3 =>
        .bnd fun x4 h5 =>
        .bnd fun r6 h7 =>
        .bnd fun r8 h9 =>
        .bnd fun r10 h11 =>
        .ite (fun h12 =>
        .ret ((okC_sound hmix (tape := [.reg [nt], .br true, .reg [nt, nt], .reg [nt, nt], .br false, .reg [nt, nt, nt, nt, nt, nt, (.el (eI x4), true), (.call { ac := [ii], r := aO 3 eTRatio_ r6, sc := false }, true), nt], .reg [nt, nt, nt, nt], .rst [0, 1] [.box [.id, .id], .box [.id, .id, .id, .id]] [(1, ii), (4, ii), (9, ii), (11, ii), (13, ii), (14, ii), (15, ii), (16, ii), (44, ii), (45, ii), (46, ii), (51, ii), (78, ii), (79, ii), (80, ii)], .sub (.exit 4) [(1, .isl 1 (v_l.map eI)), (4, .ref 0 0 0 0), (9, .isl 1 (v_list.map (eO 3 eTRatio_))), (11, .isl 1 (v_at.map (eO 3 eTRatio_))), (13, .n .i64 v_j), (14, .ref 1 0 0 0), (16, aO 3 eTRatio_ r8), (44, .isl 4 (v_t44.map eTJoint)), (45, .n .i64 v_t45), (46, .n .i64 v_j), (51, .n .i64 v_t51)] [[Ob.mk 2 [[.isl 4 (v_t44.map eTJoint), .isl 3 (box0_'.map eTMember)]] .frz], [Ob.mk 4 [[.s box1_, .n .i64 box1_', .n .i64 box1_'', .b box1_''']] .live]], .reg [nt, (.call { ac := [ii], r := .b r10, sc := true }, true), nt], .br false, .reg [nt, nt], .rst [0, 1] [.box [.id, .id], .box [.id, .id, .id, .id]] [(1, ii), (4, ii), (9, ii), (11, ii), (13, ii), (14, ii), (44, ii), (45, ii), (46, ii), (51, ii)]]) (nr := 2) (by kernel_rfl) (.cons h1 (.cons h2 (.cons ((h3).1) (.cons (lt_mapI (h3).2 : (w64 ((w64 ((2 : Int) * v_j)) + v_t51)) < ((v_l.map eI).length : Nat)) (.cons (map_get h5 : (v_l.map eI)[(w64 ((w64 ((2 : Int) * v_j)) + v_t51)).toNat]? = some (eI x4)) (.cons (impl_whole_ok x4 r6 h7) (.cons ((impl_IsForm_L5_ok v_l v_list v_at v_j v_t51 v_t44 v_t45 box0_' (len_ eTMember box0_') box1_ box1_' box1_'' box1_''' r6 0 r8 h9).vex) (.cons (impl_isZero_ok r8 r10 h11) (.cons (Sc.b _ : Sc (.b r10)) (.cons (not_t h12) .nil)))))))))) (mkS_free _ _) : VEx PP 118 0 (nodeAt (bodyOf PP 10) [1, 1, 1, 1, 1, 0, 1, 0, 0, 1, 1, 0, 0, 1, 1, 0, 0]) .normal (impl_IsForm_L6_head v_l v_list v_at v_j v_t44 v_t45 box0_' box1_ box1_' box1_'' box1_''' v_t51) (impl_IsForm_L6_head v_l v_list v_at v_j v_t44 v_t45 box0_' box1_ box1_' box1_'' box1_''' (w64 (v_t51 + (1 : Int)))))))
        (fun h12 =>
        .ret ((okC_sound hmix (tape := [.reg [nt], .br true, .reg [nt, nt], .reg [nt, nt], .br false, .reg [nt, nt, nt, nt, nt, nt, (.el (eI x4), true), (.call { ac := [ii], r := aO 3 eTRatio_ r6, sc := false }, true), nt], .reg [nt, nt, nt, nt], .rst [0, 1] [.box [.id, .id], .box [.id, .id, .id, .id]] [(1, ii), (4, ii), (9, ii), (11, ii), (13, ii), (14, ii), (15, ii), (16, ii), (44, ii), (45, ii), (46, ii), (51, ii), (78, ii), (79, ii), (80, ii)], .sub (.exit 4) [(1, .isl 1 (v_l.map eI)), (4, .ref 0 0 0 0), (9, .isl 1 (v_list.map (eO 3 eTRatio_))), (11, .isl 1 (v_at.map (eO 3 eTRatio_))), (13, .n .i64 v_j), (14, .ref 1 0 0 0), (16, aO 3 eTRatio_ r8), (44, .isl 4 (v_t44.map eTJoint)), (45, .n .i64 v_t45), (46, .n .i64 v_j), (51, .n .i64 v_t51)] [[Ob.mk 2 [[.isl 4 (v_t44.map eTJoint), .isl 3 (box0_'.map eTMember)]] .frz], [Ob.mk 4 [[.s box1_, .n .i64 box1_', .n .i64 box1_'', .b box1_''']] .live]], .reg [nt, (.call { ac := [ii], r := .b r10, sc := true }, true), nt], .br true, .reg [nt], .rst [] [] [(8, ii)]]) (nr := 2) (by kernel_rfl) (.cons h1 (.cons h2 (.cons ((h3).1) (.cons (lt_mapI (h3).2 : (w64 ((w64 ((2 : Int) * v_j)) + v_t51)) < ((v_l.map eI).length : Nat)) (.cons (map_get h5 : (v_l.map eI)[(w64 ((w64 ((2 : Int) * v_j)) + v_t51)).toNat]? = some (eI x4)) (.cons (impl_whole_ok x4 r6 h7) (.cons ((impl_IsForm_L5_ok v_l v_list v_at v_j v_t51 v_t44 v_t45 box0_' (len_ eTMember box0_') box1_ box1_' box1_'' box1_''' r6 0 r8 h9).vex) (.cons (impl_isZero_ok r8 r10 h11) (.cons (Sc.b _ : Sc (.b r10)) (.cons (not_f h12) .nil)))))))))) (mkS_free _ _) : VEx PP 118 0 (nodeAt (bodyOf PP 10) [1, 1, 1, 1, 1, 0, 1, 0, 0, 1, 1, 0, 0, 1, 1, 0, 0]) (.ret) (impl_IsForm_L6_head v_l v_list v_at v_j v_t44 v_t45 box0_' box1_ box1_' box1_'' box1_''' v_t51) (impl_IsForm_L6_out v_l v_list v_at v_j v_t44 v_t45 box0_' box1_ box1_' box1_'' box1_''' (.inr ())))))))
      (fun h1 =>
      .ret ((okC_sound hmix (tape := [.reg [nt], .br false, .rst [0] [.box [.id, .id]] [(1, ii), (4, ii), (9, ii), (11, ii), (44, ii), (45, ii), (46, ii)]]) (nr := 2) (by kernel_rfl) (.cons h1 .nil) (mkS_free _ _) : VEx PP 118 0 (nodeAt (bodyOf PP 10) [1, 1, 1, 1, 1, 0, 1, 0, 0, 1, 1, 0, 0, 1, 1, 0, 0]) (.exit 2) (impl_IsForm_L6_head v_l v_list v_at v_j v_t44 v_t45 box0_' box1_ box1_' box1_'' box1_''' v_t51) (impl_IsForm_L6_out v_l v_list v_at v_j v_t44 v_t45 box0_' box1_ box1_' box1_'' box1_''' (.inl ())))))

theorem impl_IsForm_L6_ok (v_l : (List Int)) (v_list : (List (Option TRatio_))) (v_at : (List (Option TRatio_))) (v_j : Int) (v_t44 : (List TJoint)) (v_t45 : Int) (box0_' : (List TMember)) (box1_ : ByteArray) (box1_' : Int) (box1_'' : Int) (box1_''' : Bool) (v_t51 : Int) : ∀ r, impl_IsForm_L6 v_l v_list v_at v_j v_t44 v_t45 box0_' box1_ box1_' box1_'' box1_''' v_t51 = some r → VLoop PP 118 0 (nodeAt (bodyOf PP 10) [1, 1, 1, 1, 1, 0, 1, 0, 0, 1, 1, 0, 0, 1, 1, 0, 0]) (impl_IsForm_L6_ex r) (impl_IsForm_L6_head v_l v_list v_at v_j v_t44 v_t45 box0_' box1_ box1_' box1_'' box1_''' v_t51) (impl_IsForm_L6_out v_l v_list v_at v_j v_t44 v_t45 box0_' box1_ box1_' box1_'' box1_''' r) := fun r h =>
  iter_ok (head := fun w : Int => impl_IsForm_L6_head v_l v_list v_at v_j v_t44 v_t45 box0_' box1_ box1_' box1_'' box1_''' w) (ex := impl_IsForm_L6_ex) (out := impl_IsForm_L6_out v_l v_list v_at v_j v_t44 v_t45 box0_' box1_ box1_' box1_'' box1_''') (by intro r; unfold impl_IsForm_L6_ex; split <;> simp) (fun w => impl_IsForm_L6_body_ok v_l v_list v_at v_j v_t44 v_t45 box0_' box1_ box1_' box1_'' box1_''' w) v_t51 r h

def impl_IsForm_L7_head (v_l : (List Int)) (v_list : (List (Option TRatio_))) (v_at : (List (Option TRatio_))) (v_t44 : (List TJoint)) (v_t45 : Int) (box0_' : (List TMember)) (v_t46 : Int) : S := mkS [(1, .isl 1 (v_l.map eI)), (4, .ref 0 0 0 0), (9, .isl 1 (v_list.map (eO 3 eTRatio_))), (11, .isl 1 (v_at.map (eO 3 eTRatio_))), (44, .isl 4 (v_t44.map eTJoint)), (45, .n .i64 v_t45), (46, .n .i64 v_t46)] [[Ob.mk 2 [[.isl 4 (v_t44.map eTJoint), .isl 3 (box0_'.map eTMember)]] .frz]]

def impl_IsForm_L7_ex : ((Unit) ⊕ (Unit)) → Exit
  | .inl _ => .exit 0
  | .inr _ => .ret

def impl_IsForm_L7_out (v_l : (List Int)) (v_list : (List (Option TRatio_))) (v_at : (List (Option TRatio_))) (v_t44 : (List TJoint)) (v_t45 : Int) (box0_' : (List TMember)) : ((Unit) ⊕ (Unit)) → S
  | .inl a => mkS [] []
  | .inr a => mkS [(8, .b false)] []

def impl_IsForm_L7_body (v_l : (List Int)) (v_list : (List (Option TRatio_))) (v_at : (List (Option TRatio_))) (v_t44 : (List TJoint)) (v_t45 : Int) (box0_' : (List TMember)) (v_t46 : Int) : Option ((Int) ⊕ ((Unit) ⊕ (Unit))) :=
  if (decide (v_t46 < v_t45)) = true then
    if 0 ≤ v_t46 ∧ v_t46 < v_t44.length then
    v_t44[v_t46.toNat]? >>= fun x3 =>
    impl_IsForm_L6 v_l v_list v_at v_t46 v_t44 v_t45 box0_' x3.fName x3.fX x3.fY x3.fFixed 0 >>= fun r5 =>
    match r5 with
    | .inl a7 => (some (.inl (w64 (v_t46 + (1 : Int)))))
    | .inr a7 => (some (.inr (.inr ())))
    else none
  else
    some (.inr (.inl ()))

def impl_IsForm_L7 (v_l : (List Int)) (v_list : (List (Option TRatio_))) (v_at : (List (Option TRatio_))) (v_t44 : (List TJoint)) (v_t45 : Int) (box0_' : (List TMember)) (v_t46 : Int) : Option ((Unit) ⊕ (Unit)) := iter (fun w : Int => impl_IsForm_L7_body v_l v_list v_at v_t44 v_t45 box0_' w) v_t46

theorem impl_IsForm_L7_body_ok (v_l : (List Int)) (v_list : (List (Option TRatio_))) (v_at : (List (Option TRatio_))) (v_t44 : (List TJoint)) (v_t45 : Int) (box0_' : (List TMember)) (v_t46 : Int) : Wp (impl_IsForm_L7_body v_l v_list v_at v_t44 v_t45 box0_' v_t46) (Sum.elim
    (fun w => VEx PP 118 0 (nodeAt (bodyOf PP 10) [1, 1, 1, 1, 1, 0, 1, 0, 0]) .normal (impl_IsForm_L7_head v_l v_list v_at v_t44 v_t45 box0_' v_t46) (impl_IsForm_L7_head v_l v_list v_at v_t44 v_t45 box0_' w))
    (fun r => VEx PP 118 0 (nodeAt (bodyOf PP 10) [1, 1, 1, 1, 1, 0, 1, 0, 0]) (impl_IsForm_L7_ex r) (impl_IsForm_L7_head v_l v_list v_at v_t44 v_t45 box0_' v_t46) (impl_IsForm_L7_out v_l v_list v_at v_t44 v_t45 box0_' r))) := by
  unfold impl_IsForm_L7_body
  exact .ite (fun h1 =>
      .grd fun h2 =>
       .bnd fun x3 h4 =>
       .bnd fun r5 h6 =>
       match r5, h6 with
       | .inl a7, h6 => (.ret ((okC_sound hmix (tape := [.reg [nt], .br true, .reg [nt, nt, (.el (eTJoint x3), true), nt, nt, nt], .reg [nt], .rst [0, 5] [.box [.id, .id], .box [.id, .id, .id, .id]] [(1, ii), (4, ii), (9, ii), (11, ii), (13, ii), (14, ii), (44, ii), (45, ii), (46, ii), (51, ii)], .sub (.exit 2) [(1, .isl 1 (v_l.map eI)), (4, .ref 0 0 0 0), (9, .isl 1 (v_list.map (eO 3 eTRatio_))), (11, .isl 1 (v_at.map (eO 3 eTRatio_))), (44, .isl 4 (v_t44.map eTJoint)), (45, .n .i64 v_t45), (46, .n .i64 v_t46)] [[Ob.mk 2 [[.isl 4 (v_t44.map eTJoint), .isl 3 (box0_'.map eTMember)]] .frz]], .reg [nt, nt], .rst [0] [.box [.id, .id]] [(1, ii), (4, ii), (9, ii), (11, ii), (44, ii), (45, ii), (46, ii)]]) (nr := 1) (by kernel_rfl) (.cons h1 (.cons ((h2).1) (.cons (lt_mapI (h2).2 : v_t46 < ((v_t44.map eTJoint).length : Nat)) (.cons (map_get h4 : (v_t44.map eTJoint)[v_t46.toNat]? = some (eTJoint x3)) (.cons ((impl_IsForm_L6_ok v_l v_list v_at v_t46 v_t44 v_t45 box0_' x3.fName x3.fX x3.fY x3.fFixed 0 (.inl a7) h6).vex) .nil))))) (mkS_free _ _) : VEx PP 118 0 (nodeAt (bodyOf PP 10) [1, 1, 1, 1, 1, 0, 1, 0, 0]) .normal (impl_IsForm_L7_head v_l v_list v_at v_t44 v_t45 box0_' v_t46) (impl_IsForm_L7_head v_l v_list v_at v_t44 v_t45 box0_' (w64 (v_t46 + (1 : Int)))))))
       | .inr a7, h6 => (.ret ((okC_sound hmix (tape := [.reg [nt], .br true, .reg [nt, nt, (.el (eTJoint x3), true), nt, nt, nt], .reg [nt], .rst [0, 5] [.box [.id, .id], .box [.id, .id, .id, .id]] [(1, ii), (4, ii), (9, ii), (11, ii), (13, ii), (14, ii), (44, ii), (45, ii), (46, ii), (51, ii)], .sub (.ret) [(8, .b false)] [], .rst [] [] [(8, ii)]]) (nr := 1) (by kernel_rfl) (.cons h1 (.cons ((h2).1) (.cons (lt_mapI (h2).2 : v_t46 < ((v_t44.map eTJoint).length : Nat)) (.cons (map_get h4 : (v_t44.map eTJoint)[v_t46.toNat]? = some (eTJoint x3)) (.cons ((impl_IsForm_L6_ok v_l v_list v_at v_t46 v_t44 v_t45 box0_' x3.fName x3.fX x3.fY x3.fFixed 0 (.inr a7) h6).vex) .nil))))) (mkS_free _ _) : VEx PP 118 0 (nodeAt (bodyOf PP 10) [1, 1, 1, 1, 1, 0, 1, 0, 0]) (.ret) (impl_IsForm_L7_head v_l v_list v_at v_t44 v_t45 box0_' v_t46) (impl_IsForm_L7_out v_l v_list v_at v_t44 v_t45 box0_' (.inr ()))))))
      (fun h1 =>
      .ret ((okC_sound hmix (tape := [.reg [nt], .br false, .rst [] [] []]) (nr := 1) (by kernel_rfl) (.cons h1 .nil) (mkS_free _ _) : VEx PP 118 0 (nodeAt (bodyOf PP 10) [1, 1, 1, 1, 1, 0, 1, 0, 0]) (.exit 0) (impl_IsForm_L7_head v_l v_list v_at v_t44 v_t45 box0_' v_t46) (impl_IsForm_L7_out v_l v_list v_at v_t44 v_t45 box0_' (.inl ())))))

theorem impl_IsForm_L7_ok (v_l : (List Int)) (v_list : (List (Option TRatio_))) (v_at : (List (Option TRatio_))) (v_t44 : (List TJoint)) (v_t45 : Int) (box0_' : (List TMember)) (v_t46 : Int) : ∀ r, impl_IsForm_L7 v_l v_list v_at v_t44 v_t45 box0_' v_t46 = some r → VLoop PP 118 0 (nodeAt (bodyOf PP 10) [1, 1, 1, 1, 1, 0, 1, 0, 0]) (impl_IsForm_L7_ex r) (impl_IsForm_L7_head v_l v_list v_at v_t44 v_t45 box0_' v_t46) (impl_IsForm_L7_out v_l v_list v_at v_t44 v_t45 box0_' r) := fun r h =>
  iter_ok (head := fun w : Int => impl_IsForm_L7_head v_l v_list v_at v_t44 v_t45 box0_' w) (ex := impl_IsForm_L7_ex) (out := impl_IsForm_L7_out v_l v_list v_at v_t44 v_t45 box0_') (by intro r; unfold impl_IsForm_L7_ex; split <;> simp) (fun w => impl_IsForm_L7_body_ok v_l v_list v_at v_t44 v_t45 box0_' w) v_t46 r h

def impl_IsForm (v_s : TStructure) (v_l : (List Int)) (v_q : (List TRat)) (v_places : (List TRat)) : Option Bool :=
  impl_densities v_s v_q >>= fun r1 =>
  if r1.2 = true then
    impl_fitsLoad v_s v_l >>= fun r4 =>
    if r4 = true then
      impl_loadsOf v_places (w64 ((2 : Int) * (len_ eTJoint v_s.fJoints))) >>= fun r7 =>
      if r7.2 = true then
        impl_IsForm_L7 v_l r1.1 r7.1 v_s.fJoints (len_ eTJoint v_s.fJoints) v_s.fMembers 0 >>= fun r10 =>
        match r10 with
        | .inl a12 => (some true)
        | .inr a12 => (some false)
      else
        some false
    else
      some false
  else
    some false

theorem impl_IsForm_ok (v_s : TStructure) (v_l : (List Int)) (v_q : (List TRat)) (v_places : (List TRat)) : Wp (impl_IsForm v_s v_l v_q v_places) (fun r => Con PP 10 [.agg [.isl 4 (v_s.fJoints.map eTJoint), .isl 3 (v_s.fMembers.map eTMember)], .isl 1 (v_l.map eI), .isl 3 (v_q.map eTRat), .isl 3 (v_places.map eTRat)] [] (.b r) []) := by
  unfold impl_IsForm
  exact .bnd fun r1 h2 =>
    .ite (fun h3 =>
    .bnd fun r4 h5 =>
     .ite (fun h6 =>
     .bnd fun r7 h8 =>
      .ite (fun h9 =>
      .bnd fun r10 h11 =>
       match r10, h11 with
       | .inl a12, h11 => (.ret (runF_con0 hmix (tape := [.reg [nt, nt], .frz 0, .reg [nt, (.call { ac := [.c1 (.ptr [.id, .id]), ii], rds := [0], r := .tup [.isl 1 (r1.1.map (eO 3 eTRatio_)), .b r1.2], sc := false }, true), nt, nt, nt, nt, nt], .reg [nt, nt, nt, nt, (.call { ac := [.c1 (.ptr [.id, .id]), ii], rds := [0], r := .b r4, sc := true }, true), nt, (.br false, true)], .br false, .reg [nt, nt, nt, nt, nt, (.call { ac := [ii, ii], r := .tup [.isl 1 (r7.1.map (eO 3 eTRatio_)), .b r7.2], sc := false }, true), nt, nt, nt, nt, nt], .reg [nt, nt], .br false, .reg [nt, nt, nt, nt], .rst [0] [.box [.id, .id]] [(1, ii), (4, ii), (9, ii), (11, ii), (44, ii), (45, ii), (46, ii)], .sub (.exit 0) [] [], .reg [nt]]) (rr := ii) (by kernel_rfl) (.cons (pure_es1 (eTStructure_pure v_s) : PureEs [[.isl 4 (v_s.fJoints.map eTJoint), .isl 3 (v_s.fMembers.map eTMember)]]) (.cons (impl_densities_ok v_s v_q r1 h2) (.cons (not_t h3) (.cons (not_t h3) (.cons (pure_es1 (eTStructure_pure v_s) : PureEs [[.isl 4 (v_s.fJoints.map eTJoint), .isl 3 (v_s.fMembers.map eTMember)]]) (.cons (impl_fitsLoad_ok v_s v_l r4 h5) (.cons (Sc.b _ : Sc (.b r4)) (.cons (not_t h3) (.cons (not_t h3) (.cons (not_t h6) (.cons (impl_loadsOf_ok v_places (w64 ((2 : Int) * (len_ eTJoint v_s.fJoints))) r7 h8) (.cons (not_t h9) (.cons ((impl_IsForm_L7_ok v_l r1.1 r7.1 v_s.fJoints (len_ eTJoint v_s.fJoints) v_s.fMembers 0 (.inl a12) h11).vex) .nil)))))))))))))))
       | .inr a12, h11 => (.ret (runF_con0 hmix (tape := [.reg [nt, nt], .frz 0, .reg [nt, (.call { ac := [.c1 (.ptr [.id, .id]), ii], rds := [0], r := .tup [.isl 1 (r1.1.map (eO 3 eTRatio_)), .b r1.2], sc := false }, true), nt, nt, nt, nt, nt], .reg [nt, nt, nt, nt, (.call { ac := [.c1 (.ptr [.id, .id]), ii], rds := [0], r := .b r4, sc := true }, true), nt, (.br false, true)], .br false, .reg [nt, nt, nt, nt, nt, (.call { ac := [ii, ii], r := .tup [.isl 1 (r7.1.map (eO 3 eTRatio_)), .b r7.2], sc := false }, true), nt, nt, nt, nt, nt], .reg [nt, nt], .br false, .reg [nt, nt, nt, nt], .rst [0] [.box [.id, .id]] [(1, ii), (4, ii), (9, ii), (11, ii), (44, ii), (45, ii), (46, ii)], .sub (.ret) [(8, .b false)] []]) (rr := ii) (by kernel_rfl) (.cons (pure_es1 (eTStructure_pure v_s) : PureEs [[.isl 4 (v_s.fJoints.map eTJoint), .isl 3 (v_s.fMembers.map eTMember)]]) (.cons (impl_densities_ok v_s v_q r1 h2) (.cons (not_t h3) (.cons (not_t h3) (.cons (pure_es1 (eTStructure_pure v_s) : PureEs [[.isl 4 (v_s.fJoints.map eTJoint), .isl 3 (v_s.fMembers.map eTMember)]]) (.cons (impl_fitsLoad_ok v_s v_l r4 h5) (.cons (Sc.b _ : Sc (.b r4)) (.cons (not_t h3) (.cons (not_t h3) (.cons (not_t h6) (.cons (impl_loadsOf_ok v_places (w64 ((2 : Int) * (len_ eTJoint v_s.fJoints))) r7 h8) (.cons (not_t h9) (.cons ((impl_IsForm_L7_ok v_l r1.1 r7.1 v_s.fJoints (len_ eTJoint v_s.fJoints) v_s.fMembers 0 (.inr a12) h11).vex) .nil))))))))))))))))
      (fun h9 =>
      .ret (runF_con0 hmix (tape := [.reg [nt, nt], .frz 0, .reg [nt, (.call { ac := [.c1 (.ptr [.id, .id]), ii], rds := [0], r := .tup [.isl 1 (r1.1.map (eO 3 eTRatio_)), .b r1.2], sc := false }, true), nt, nt, nt, nt, nt], .reg [nt, nt, nt, nt, (.call { ac := [.c1 (.ptr [.id, .id]), ii], rds := [0], r := .b r4, sc := true }, true), nt, (.br false, true)], .br false, .reg [nt, nt, nt, nt, nt, (.call { ac := [ii, ii], r := .tup [.isl 1 (r7.1.map (eO 3 eTRatio_)), .b r7.2], sc := false }, true), nt, nt, nt, nt, nt], .reg [nt, nt], .br true, .reg [nt]]) (rr := ii) (by kernel_rfl) (.cons (pure_es1 (eTStructure_pure v_s) : PureEs [[.isl 4 (v_s.fJoints.map eTJoint), .isl 3 (v_s.fMembers.map eTMember)]]) (.cons (impl_densities_ok v_s v_q r1 h2) (.cons (not_t h3) (.cons (not_t h3) (.cons (pure_es1 (eTStructure_pure v_s) : PureEs [[.isl 4 (v_s.fJoints.map eTJoint), .isl 3 (v_s.fMembers.map eTMember)]]) (.cons (impl_fitsLoad_ok v_s v_l r4 h5) (.cons (Sc.b _ : Sc (.b r4)) (.cons (not_t h3) (.cons (not_t h3) (.cons (not_t h6) (.cons (impl_loadsOf_ok v_places (w64 ((2 : Int) * (len_ eTJoint v_s.fJoints))) r7 h8) (.cons (not_f h9) .nil)))))))))))))))
     (fun h6 =>
     .ret (runF_con0 hmix (tape := [.reg [nt, nt], .frz 0, .reg [nt, (.call { ac := [.c1 (.ptr [.id, .id]), ii], rds := [0], r := .tup [.isl 1 (r1.1.map (eO 3 eTRatio_)), .b r1.2], sc := false }, true), nt, nt, nt, nt, nt], .reg [nt, nt, nt, nt, (.call { ac := [.c1 (.ptr [.id, .id]), ii], rds := [0], r := .b r4, sc := true }, true), nt, (.br false, true)], .br true, .reg [nt]]) (rr := ii) (by kernel_rfl) (.cons (pure_es1 (eTStructure_pure v_s) : PureEs [[.isl 4 (v_s.fJoints.map eTJoint), .isl 3 (v_s.fMembers.map eTMember)]]) (.cons (impl_densities_ok v_s v_q r1 h2) (.cons (not_t h3) (.cons (not_t h3) (.cons (pure_es1 (eTStructure_pure v_s) : PureEs [[.isl 4 (v_s.fJoints.map eTJoint), .isl 3 (v_s.fMembers.map eTMember)]]) (.cons (impl_fitsLoad_ok v_s v_l r4 h5) (.cons (Sc.b _ : Sc (.b r4)) (.cons (not_t h3) (.cons (not_t h3) (.cons (not_f h6) .nil)))))))))))))
    (fun h3 =>
    .ret (runF_con0 hmix (tape := [.reg [nt, nt], .frz 0, .reg [nt, (.call { ac := [.c1 (.ptr [.id, .id]), ii], rds := [0], r := .tup [.isl 1 (r1.1.map (eO 3 eTRatio_)), .b r1.2], sc := false }, true), nt, nt, nt, nt, nt], .reg [nt, nt, nt, nf, nf, nf, (.br true, true)], .br true, .reg [nt]]) (rr := ii) (by kernel_rfl) (.cons (pure_es1 (eTStructure_pure v_s) : PureEs [[.isl 4 (v_s.fJoints.map eTJoint), .isl 3 (v_s.fMembers.map eTMember)]]) (.cons (impl_densities_ok v_s v_q r1 h2) (.cons (not_f h3) (.cons (not_f h3) (.cons (not_f h3) (.cons (not_f h3) (.cons (rfl : true = true) .nil)))))))))

def laws_eqJoint (v_a : TJoint) (v_b : TJoint) : Option Bool :=
  if (!(v_a.fName.toList == v_b.fName.toList)) = true then
    some false
  else
    if (v_a.fX != v_b.fX) = true then
      some false
    else
      if (v_a.fY != v_b.fY) = true then
        some false
      else
        if (v_a.fFixed == v_b.fFixed) = true then
          some true
        else
          some false

theorem laws_eqJoint_ok (v_a : TJoint) (v_b : TJoint) : Wp (laws_eqJoint v_a v_b) (fun r => Con PP 76 [.agg [.s v_a.fName, .n .i64 v_a.fX, .n .i64 v_a.fY, .b v_a.fFixed], .agg [.s v_b.fName, .n .i64 v_b.fX, .n .i64 v_b.fY, .b v_b.fFixed]] [] (.b r) []) := by
  unfold laws_eqJoint
  exact .ite (fun h1 =>
    .ret (runF_con0 hmix (tape := [.reg [nt, nt, nt], .reg [nt, nt, nt, nt, nt], .br true, .reg [nt]]) (rr := ii) (by kernel_rfl) (.cons h1 .nil)))
    (fun h1 =>
    .ite (fun h2 =>
     .ret (runF_con0 hmix (tape := [.reg [nt, nt, nt], .reg [nt, nt, nt, nt, nt], .br false, .reg [nt, nt, nt, nt, nt], .br true, .reg [nt]]) (rr := ii) (by kernel_rfl) (.cons h1 (.cons h2 .nil))))
     (fun h2 =>
     .ite (fun h3 =>
      .ret (runF_con0 hmix (tape := [.reg [nt, nt, nt], .reg [nt, nt, nt, nt, nt], .br false, .reg [nt, nt, nt, nt, nt], .br false, .reg [nt, nt, nt, nt, nt], .br true, .reg [nt]]) (rr := ii) (by kernel_rfl) (.cons h1 (.cons h2 (.cons h3 .nil)))))
      (fun h3 =>
      .ite (fun h4 =>
       .ret (runF_con0 hmix (tape := [.reg [nt, nt, nt], .reg [nt, nt, nt, nt, nt], .br false, .reg [nt, nt, nt, nt, nt], .br false, .reg [nt, nt, nt, nt, nt], .br false, .reg [nt, nt, nt, nt, nt], .br false, .reg [nt]]) (rr := ii) (by kernel_rfl) (.cons h1 (.cons h2 (.cons h3 (.cons (not_t h4) .nil))))))
       (fun h4 =>
       .ret (runF_con0 hmix (tape := [.reg [nt, nt, nt], .reg [nt, nt, nt, nt, nt], .br false, .reg [nt, nt, nt, nt, nt], .br false, .reg [nt, nt, nt, nt, nt], .br false, .reg [nt, nt, nt, nt, nt], .br true, .reg [nt]]) (rr := ii) (by kernel_rfl) (.cons h1 (.cons h2 (.cons h3 (.cons (not_f h4) .nil)))))))))

def laws_eqJointS_L1_head (v_a : (List TJoint)) (v_b : (List TJoint)) (v_i : Int) : S := mkS [(0, .isl 4 (v_a.map eTJoint)), (1, .isl 4 (v_b.map eTJoint)), (5, .n .i64 v_i)] []

def laws_eqJointS_L1_ex : ((Unit) ⊕ (Unit)) → Exit
  | .inl _ => .exit 0
  | .inr _ => .ret

def laws_eqJointS_L1_out (v_a : (List TJoint)) (v_b : (List TJoint)) : ((Unit) ⊕ (Unit)) → S
  | .inl a => mkS [] []
  | .inr a => mkS [(4, .b false)] []

def laws_eqJointS_L1_body (v_a : (List TJoint)) (v_b : (List TJoint)) (v_i : Int) : Option ((Int) ⊕ ((Unit) ⊕ (Unit))) :=
  if (decide (v_i < (len_ eTJoint v_a))) = true then
    if 0 ≤ v_i ∧ v_i < v_a.length then
    v_a[v_i.toNat]? >>= fun x3 =>
    if 0 ≤ v_i ∧ v_i < v_b.length then
    v_b[v_i.toNat]? >>= fun x6 =>
    laws_eqJoint x3 x6 >>= fun r8 =>
    if r8 = true then
      some (.inl (w64 (v_i + (1 : Int))))
    else
      some (.inr (.inr ()))
    else none
    else none
  else
    some (.inr (.inl ()))

def laws_eqJointS_L1 (v_a : (List TJoint)) (v_b : (List TJoint)) (v_i : Int) : Option ((Unit) ⊕ (Unit)) := iter (fun w : Int => laws_eqJointS_L1_body v_a v_b w) v_i

theorem laws_eqJointS_L1_body_ok (v_a : (List TJoint)) (v_b : (List TJoint)) (v_i : Int) : Wp (laws_eqJointS_L1_body v_a v_b v_i) (Sum.elim
    (fun w => VEx PP 27 0 (nodeAt (bodyOf PP 42) [1, 1, 0, 1, 0, 0]) .normal (laws_eqJointS_L1_head v_a v_b v_i) (laws_eqJointS_L1_head v_a v_b w))
    (fun r => VEx PP 27 0 (nodeAt (bodyOf PP 42) [1, 1, 0, 1, 0, 0]) (laws_eqJointS_L1_ex r) (laws_eqJointS_L1_head v_a v_b v_i) (laws_eqJointS_L1_out v_a v_b r))) := by
  unfold laws_eqJointS_L1_body
  exact .ite (fun h1 =>
      .grd fun h2 =>
       .bnd fun x3 h4 =>
       .grd fun h5 =>
       .bnd fun x6 h7 =>
       .bnd fun r8 h9 =>
       .ite (fun h10 =>
       .ret ((okC_sound hmix (tape := [.reg [nt, nt, nt, nt], .br true, .reg [nt, nt, nt, (.el (eTJoint x3), true), nt, nt, nt, (.el (eTJoint x6), true), (.call { ac := [ii, ii], r := .b r8, sc := true }, true), nt], .br false, .reg [nt, nt, nt], .rst [] [] [(0, ii), (1, ii), (5, ii)]]) (nr := 0) (by kernel_rfl) (.cons h1 (.cons ((h2).1) (.cons (lt_mapI (h2).2 : v_i < ((v_a.map eTJoint).length : Nat)) (.cons (map_get h4 : (v_a.map eTJoint)[v_i.toNat]? = some (eTJoint x3)) (.cons ((h5).1) (.cons (lt_mapI (h5).2 : v_i < ((v_b.map eTJoint).length : Nat)) (.cons (map_get h7 : (v_b.map eTJoint)[v_i.toNat]? = some (eTJoint x6)) (.cons (laws_eqJoint_ok x3 x6 r8 h9) (.cons (Sc.b _ : Sc (.b r8)) (.cons (not_t h10) .nil)))))))))) (mkS_free _ _) : VEx PP 27 0 (nodeAt (bodyOf PP 42) [1, 1, 0, 1, 0, 0]) .normal (laws_eqJointS_L1_head v_a v_b v_i) (laws_eqJointS_L1_head v_a v_b (w64 (v_i + (1 : Int)))))))
       (fun h10 =>
       .ret ((okC_sound hmix (tape := [.reg [nt, nt, nt, nt], .br true, .reg [nt, nt, nt, (.el (eTJoint x3), true), nt, nt, nt, (.el (eTJoint x6), true), (.call { ac := [ii, ii], r := .b r8, sc := true }, true), nt], .br true, .reg [nt], .rst [] [] [(4, ii)]]) (nr := 0) (by kernel_rfl) (.cons h1 (.cons ((h2).1) (.cons (lt_mapI (h2).2 : v_i < ((v_a.map eTJoint).length : Nat)) (.cons (map_get h4 : (v_a.map eTJoint)[v_i.toNat]? = some (eTJoint x3)) (.cons ((h5).1) (.cons (lt_mapI (h5).2 : v_i < ((v_b.map eTJoint).length : Nat)) (.cons (map_get h7 : (v_b.map eTJoint)[v_i.toNat]? = some (eTJoint x6)) (.cons (laws_eqJoint_ok x3 x6 r8 h9) (.cons (Sc.b _ : Sc (.b r8)) (.cons (not_f h10) .nil)))))))))) (mkS_free _ _) : VEx PP 27 0 (nodeAt (bodyOf PP 42) [1, 1, 0, 1, 0, 0]) (.ret) (laws_eqJointS_L1_head v_a v_b v_i) (laws_eqJointS_L1_out v_a v_b (.inr ()))))))
      (fun h1 =>
      .ret ((okC_sound hmix (tape := [.reg [nt, nt, nt, nt], .br false, .rst [] [] []]) (nr := 0) (by kernel_rfl) (.cons h1 .nil) (mkS_free _ _) : VEx PP 27 0 (nodeAt (bodyOf PP 42) [1, 1, 0, 1, 0, 0]) (.exit 0) (laws_eqJointS_L1_head v_a v_b v_i) (laws_eqJointS_L1_out v_a v_b (.inl ())))))

theorem laws_eqJointS_L1_ok (v_a : (List TJoint)) (v_b : (List TJoint)) (v_i : Int) : ∀ r, laws_eqJointS_L1 v_a v_b v_i = some r → VLoop PP 27 0 (nodeAt (bodyOf PP 42) [1, 1, 0, 1, 0, 0]) (laws_eqJointS_L1_ex r) (laws_eqJointS_L1_head v_a v_b v_i) (laws_eqJointS_L1_out v_a v_b r) := fun r h =>
  iter_ok (head := fun w : Int => laws_eqJointS_L1_head v_a v_b w) (ex := laws_eqJointS_L1_ex) (out := laws_eqJointS_L1_out v_a v_b) (by intro r; unfold laws_eqJointS_L1_ex; split <;> simp) (fun w => laws_eqJointS_L1_body_ok v_a v_b w) v_i r h

def laws_eqJointS (v_a : (List TJoint)) (v_b : (List TJoint)) : Option Bool :=
  if ((len_ eTJoint v_a) != (len_ eTJoint v_b)) = true then
    some false
  else
    laws_eqJointS_L1 v_a v_b 0 >>= fun r2 =>
    match r2 with
    | .inl a4 => (some true)
    | .inr a4 => (some false)

theorem laws_eqJointS_ok (v_a : (List TJoint)) (v_b : (List TJoint)) : Wp (laws_eqJointS v_a v_b) (fun r => Con PP 42 [.isl 4 (v_a.map eTJoint), .isl 4 (v_b.map eTJoint)] [] (.b r) []) := by
  unfold laws_eqJointS
  exact .ite (fun h1 =>
    .ret (runF_con0 hmix (tape := [.reg [nt], .reg [nt, nt, nt, nt, nt], .br true, .reg [nt]]) (rr := ii) (by kernel_rfl) (.cons h1 .nil)))
    (fun h1 =>
    .bnd fun r2 h3 =>
     match r2, h3 with
     | .inl a4, h3 => (.ret (runF_con0 hmix (tape := [.reg [nt], .reg [nt, nt, nt, nt, nt], .br false, .reg [nt], .rst [] [] [(0, ii), (1, ii), (5, ii)], .sub (.exit 0) [] [], .reg [nt]]) (rr := ii) (by kernel_rfl) (.cons h1 (.cons ((laws_eqJointS_L1_ok v_a v_b 0 (.inl a4) h3).vex) .nil))))
     | .inr a4, h3 => (.ret (runF_con0 hmix (tape := [.reg [nt], .reg [nt, nt, nt, nt, nt], .br false, .reg [nt], .rst [] [] [(0, ii), (1, ii), (5, ii)], .sub (.ret) [(4, .b false)] []]) (rr := ii) (by kernel_rfl) (.cons h1 (.cons ((laws_eqJointS_L1_ok v_a v_b 0 (.inr a4) h3).vex) .nil)))))

def laws_eqMember (v_a : TMember) (v_b : TMember) : Option Bool :=
  if (v_a.fA != v_b.fA) = true then
    some false
  else
    if (v_a.fB != v_b.fB) = true then
      some false
    else
      if (v_a.fKind != v_b.fKind) = true then
        some false
      else
        some true

theorem laws_eqMember_ok (v_a : TMember) (v_b : TMember) : Wp (laws_eqMember v_a v_b) (fun r => Con PP 77 [.agg [.n .i64 v_a.fA, .n .i64 v_a.fB, .n .i64 v_a.fKind], .agg [.n .i64 v_b.fA, .n .i64 v_b.fB, .n .i64 v_b.fKind]] [] (.b r) []) := by
  unfold laws_eqMember
  exact .ite (fun h1 =>
    .ret (runF_con0 hmix (tape := [.reg [nt, nt, nt], .reg [nt, nt, nt, nt, nt], .br true, .reg [nt]]) (rr := ii) (by kernel_rfl) (.cons h1 .nil)))
    (fun h1 =>
    .ite (fun h2 =>
     .ret (runF_con0 hmix (tape := [.reg [nt, nt, nt], .reg [nt, nt, nt, nt, nt], .br false, .reg [nt, nt, nt, nt, nt], .br true, .reg [nt]]) (rr := ii) (by kernel_rfl) (.cons h1 (.cons h2 .nil))))
     (fun h2 =>
     .ite (fun h3 =>
      .ret (runF_con0 hmix (tape := [.reg [nt, nt, nt], .reg [nt, nt, nt, nt, nt], .br false, .reg [nt, nt, nt, nt, nt], .br false, .reg [nt, nt, nt, nt, nt], .br true, .reg [nt]]) (rr := ii) (by kernel_rfl) (.cons h1 (.cons h2 (.cons h3 .nil)))))
      (fun h3 =>
      .ret (runF_con0 hmix (tape := [.reg [nt, nt, nt], .reg [nt, nt, nt, nt, nt], .br false, .reg [nt, nt, nt, nt, nt], .br false, .reg [nt, nt, nt, nt, nt], .br false, .reg [nt]]) (rr := ii) (by kernel_rfl) (.cons h1 (.cons h2 (.cons h3 .nil)))))))

def laws_eqMemberS_L1_head (v_a : (List TMember)) (v_b : (List TMember)) (v_i : Int) : S := mkS [(0, .isl 3 (v_a.map eTMember)), (1, .isl 3 (v_b.map eTMember)), (5, .n .i64 v_i)] []

def laws_eqMemberS_L1_ex : ((Unit) ⊕ (Unit)) → Exit
  | .inl _ => .exit 0
  | .inr _ => .ret

def laws_eqMemberS_L1_out (v_a : (List TMember)) (v_b : (List TMember)) : ((Unit) ⊕ (Unit)) → S
  | .inl a => mkS [] []
  | .inr a => mkS [(4, .b false)] []

def laws_eqMemberS_L1_body (v_a : (List TMember)) (v_b : (List TMember)) (v_i : Int) : Option ((Int) ⊕ ((Unit) ⊕ (Unit))) :=
  if (decide (v_i < (len_ eTMember v_a))) = true then
    if 0 ≤ v_i ∧ v_i < v_a.length then
    v_a[v_i.toNat]? >>= fun x3 =>
    if 0 ≤ v_i ∧ v_i < v_b.length then
    v_b[v_i.toNat]? >>= fun x6 =>
    laws_eqMember x3 x6 >>= fun r8 =>
    if r8 = true then
      some (.inl (w64 (v_i + (1 : Int))))
    else
      some (.inr (.inr ()))
    else none
    else none
  else
    some (.inr (.inl ()))

def laws_eqMemberS_L1 (v_a : (List TMember)) (v_b : (List TMember)) (v_i : Int) : Option ((Unit) ⊕ (Unit)) := iter (fun w : Int => laws_eqMemberS_L1_body v_a v_b w) v_i

theorem laws_eqMemberS_L1_body_ok (v_a : (List TMember)) (v_b : (List TMember)) (v_i : Int) : Wp (laws_eqMemberS_L1_body v_a v_b v_i) (Sum.elim
    (fun w => VEx PP 27 0 (nodeAt (bodyOf PP 43) [1, 1, 0, 1, 0, 0]) .normal (laws_eqMemberS_L1_head v_a v_b v_i) (laws_eqMemberS_L1_head v_a v_b w))
    (fun r => VEx PP 27 0 (nodeAt (bodyOf PP 43) [1, 1, 0, 1, 0, 0]) (laws_eqMemberS_L1_ex r) (laws_eqMemberS_L1_head v_a v_b v_i) (laws_eqMemberS_L1_out v_a v_b r))) := by
  unfold laws_eqMemberS_L1_body
  exact .ite (fun h1 =>
      .grd fun h2 =>
       .bnd fun x3 h4 =>
       .grd fun h5 =>
       .bnd fun x6 h7 =>
       .bnd fun r8 h9 =>
       .ite (fun h10 =>
       .ret ((okC_sound hmix (tape := [.reg [nt, nt, nt, nt], .br true, .reg [nt, nt, nt, (.el (eTMember x3), true), nt, nt, nt, (.el (eTMember x6), true), (.call { ac := [ii, ii], r := .b r8, sc := true }, true), nt], .br false, .reg [nt, nt, nt], .rst [] [] [(0, ii), (1, ii), (5, ii)]]) (nr := 0) (by kernel_rfl) (.cons h1 (.cons ((h2).1) (.cons (lt_mapI (h2).2 : v_i < ((v_a.map eTMember).length : Nat)) (.cons (map_get h4 : (v_a.map eTMember)[v_i.toNat]? = some (eTMember x3)) (.cons ((h5).1) (.cons (lt_mapI (h5).2 : v_i < ((v_b.map eTMember).length : Nat)) (.cons (map_get h7 : (v_b.map eTMember)[v_i.toNat]? = some (eTMember x6)) (.cons (laws_eqMember_ok x3 x6 r8 h9) (.cons (Sc.b _ : Sc (.b r8)) (.cons (not_t h10) .nil)))))))))) (mkS_free _ _) : VEx PP 27 0 (nodeAt (bodyOf PP 43) [1, 1, 0, 1, 0, 0]) .normal (laws_eqMemberS_L1_head v_a v_b v_i) (laws_eqMemberS_L1_head v_a v_b (w64 (v_i + (1 : Int)))))))
       (fun h10 =>
       .ret ((okC_sound hmix (tape := [.reg [nt, nt, nt, nt], .br true, .reg [nt, nt, nt, (.el (eTMember x3), true), nt, nt, nt, (.el (eTMember x6), true), (.call { ac := [ii, ii], r := .b r8, sc := true }, true), nt], .br true, .reg [nt], .rst [] [] [(4, ii)]]) (nr := 0) (by kernel_rfl) (.cons h1 (.cons ((h2).1) (.cons (lt_mapI (h2).2 : v_i < ((v_a.map eTMember).length : Nat)) (.cons (map_get h4 : (v_a.map eTMember)[v_i.toNat]? = some (eTMember x3)) (.cons ((h5).1) (.cons (lt_mapI (h5).2 : v_i < ((v_b.map eTMember).length : Nat)) (.cons (map_get h7 : (v_b.map eTMember)[v_i.toNat]? = some (eTMember x6)) (.cons (laws_eqMember_ok x3 x6 r8 h9) (.cons (Sc.b _ : Sc (.b r8)) (.cons (not_f h10) .nil)))))))))) (mkS_free _ _) : VEx PP 27 0 (nodeAt (bodyOf PP 43) [1, 1, 0, 1, 0, 0]) (.ret) (laws_eqMemberS_L1_head v_a v_b v_i) (laws_eqMemberS_L1_out v_a v_b (.inr ()))))))
      (fun h1 =>
      .ret ((okC_sound hmix (tape := [.reg [nt, nt, nt, nt], .br false, .rst [] [] []]) (nr := 0) (by kernel_rfl) (.cons h1 .nil) (mkS_free _ _) : VEx PP 27 0 (nodeAt (bodyOf PP 43) [1, 1, 0, 1, 0, 0]) (.exit 0) (laws_eqMemberS_L1_head v_a v_b v_i) (laws_eqMemberS_L1_out v_a v_b (.inl ())))))

theorem laws_eqMemberS_L1_ok (v_a : (List TMember)) (v_b : (List TMember)) (v_i : Int) : ∀ r, laws_eqMemberS_L1 v_a v_b v_i = some r → VLoop PP 27 0 (nodeAt (bodyOf PP 43) [1, 1, 0, 1, 0, 0]) (laws_eqMemberS_L1_ex r) (laws_eqMemberS_L1_head v_a v_b v_i) (laws_eqMemberS_L1_out v_a v_b r) := fun r h =>
  iter_ok (head := fun w : Int => laws_eqMemberS_L1_head v_a v_b w) (ex := laws_eqMemberS_L1_ex) (out := laws_eqMemberS_L1_out v_a v_b) (by intro r; unfold laws_eqMemberS_L1_ex; split <;> simp) (fun w => laws_eqMemberS_L1_body_ok v_a v_b w) v_i r h

def laws_eqMemberS (v_a : (List TMember)) (v_b : (List TMember)) : Option Bool :=
  if ((len_ eTMember v_a) != (len_ eTMember v_b)) = true then
    some false
  else
    laws_eqMemberS_L1 v_a v_b 0 >>= fun r2 =>
    match r2 with
    | .inl a4 => (some true)
    | .inr a4 => (some false)

theorem laws_eqMemberS_ok (v_a : (List TMember)) (v_b : (List TMember)) : Wp (laws_eqMemberS v_a v_b) (fun r => Con PP 43 [.isl 3 (v_a.map eTMember), .isl 3 (v_b.map eTMember)] [] (.b r) []) := by
  unfold laws_eqMemberS
  exact .ite (fun h1 =>
    .ret (runF_con0 hmix (tape := [.reg [nt], .reg [nt, nt, nt, nt, nt], .br true, .reg [nt]]) (rr := ii) (by kernel_rfl) (.cons h1 .nil)))
    (fun h1 =>
    .bnd fun r2 h3 =>
     match r2, h3 with
     | .inl a4, h3 => (.ret (runF_con0 hmix (tape := [.reg [nt], .reg [nt, nt, nt, nt, nt], .br false, .reg [nt], .rst [] [] [(0, ii), (1, ii), (5, ii)], .sub (.exit 0) [] [], .reg [nt]]) (rr := ii) (by kernel_rfl) (.cons h1 (.cons ((laws_eqMemberS_L1_ok v_a v_b 0 (.inl a4) h3).vex) .nil))))
     | .inr a4, h3 => (.ret (runF_con0 hmix (tape := [.reg [nt], .reg [nt, nt, nt, nt, nt], .br false, .reg [nt], .rst [] [] [(0, ii), (1, ii), (5, ii)], .sub (.ret) [(4, .b false)] []]) (rr := ii) (by kernel_rfl) (.cons h1 (.cons ((laws_eqMemberS_L1_ok v_a v_b 0 (.inr a4) h3).vex) .nil)))))

def laws_eqStructure (v_a : TStructure) (v_b : TStructure) : Option Bool :=
  laws_eqJointS v_a.fJoints v_b.fJoints >>= fun r1 =>
  if r1 = true then
    laws_eqMemberS v_a.fMembers v_b.fMembers >>= fun r4 =>
    if r4 = true then
      some true
    else
      some false
  else
    some false

theorem laws_eqStructure_ok (v_a : TStructure) (v_b : TStructure) : Wp (laws_eqStructure v_a v_b) (fun r => Con PP 11 [.agg [.isl 4 (v_a.fJoints.map eTJoint), .isl 3 (v_a.fMembers.map eTMember)], .agg [.isl 4 (v_b.fJoints.map eTJoint), .isl 3 (v_b.fMembers.map eTMember)]] [] (.b r) []) := by
  unfold laws_eqStructure
  exact .bnd fun r1 h2 =>
    .ite (fun h3 =>
    .bnd fun r4 h5 =>
     .ite (fun h6 =>
     .ret (runF_con0 hmix (tape := [.reg [nt, nt, nt], .reg [nt, nt, nt, nt, (.call { ac := [ii, ii], r := .b r1, sc := true }, true), nt], .br false, .reg [nt, nt, nt, nt, (.call { ac := [ii, ii], r := .b r4, sc := true }, true), nt], .br false, .reg [nt]]) (rr := ii) (by kernel_rfl) (.cons (laws_eqJointS_ok v_a.fJoints v_b.fJoints r1 h2) (.cons (Sc.b _ : Sc (.b r1)) (.cons (not_t h3) (.cons (laws_eqMemberS_ok v_a.fMembers v_b.fMembers r4 h5) (.cons (Sc.b _ : Sc (.b r4)) (.cons (not_t h6) .nil))))))))
     (fun h6 =>
     .ret (runF_con0 hmix (tape := [.reg [nt, nt, nt], .reg [nt, nt, nt, nt, (.call { ac := [ii, ii], r := .b r1, sc := true }, true), nt], .br false, .reg [nt, nt, nt, nt, (.call { ac := [ii, ii], r := .b r4, sc := true }, true), nt], .br true, .reg [nt]]) (rr := ii) (by kernel_rfl) (.cons (laws_eqJointS_ok v_a.fJoints v_b.fJoints r1 h2) (.cons (Sc.b _ : Sc (.b r1)) (.cons (not_t h3) (.cons (laws_eqMemberS_ok v_a.fMembers v_b.fMembers r4 h5) (.cons (Sc.b _ : Sc (.b r4)) (.cons (not_f h6) .nil)))))))))
    (fun h3 =>
    .ret (runF_con0 hmix (tape := [.reg [nt, nt, nt], .reg [nt, nt, nt, nt, (.call { ac := [ii, ii], r := .b r1, sc := true }, true), nt], .br true, .reg [nt]]) (rr := ii) (by kernel_rfl) (.cons (laws_eqJointS_ok v_a.fJoints v_b.fJoints r1 h2) (.cons (Sc.b _ : Sc (.b r1)) (.cons (not_f h3) .nil)))))

def laws_eqIntS_L1_head (v_a : (List Int)) (v_b : (List Int)) (v_i : Int) : S := mkS [(0, .isl 1 (v_a.map eI)), (1, .isl 1 (v_b.map eI)), (5, .n .i64 v_i)] []

def laws_eqIntS_L1_ex : ((Unit) ⊕ (Unit)) → Exit
  | .inl _ => .exit 0
  | .inr _ => .ret

def laws_eqIntS_L1_out (v_a : (List Int)) (v_b : (List Int)) : ((Unit) ⊕ (Unit)) → S
  | .inl a => mkS [] []
  | .inr a => mkS [(4, .b false)] []

def laws_eqIntS_L1_body (v_a : (List Int)) (v_b : (List Int)) (v_i : Int) : Option ((Int) ⊕ ((Unit) ⊕ (Unit))) :=
  if (decide (v_i < (len_ eI v_a))) = true then
    if 0 ≤ v_i ∧ v_i < v_a.length then
    v_a[v_i.toNat]? >>= fun x3 =>
    if 0 ≤ v_i ∧ v_i < v_b.length then
    v_b[v_i.toNat]? >>= fun x6 =>
    if (x3 != x6) = true then
      some (.inr (.inr ()))
    else
      some (.inl (w64 (v_i + (1 : Int))))
    else none
    else none
  else
    some (.inr (.inl ()))

def laws_eqIntS_L1 (v_a : (List Int)) (v_b : (List Int)) (v_i : Int) : Option ((Unit) ⊕ (Unit)) := iter (fun w : Int => laws_eqIntS_L1_body v_a v_b w) v_i

theorem laws_eqIntS_L1_body_ok (v_a : (List Int)) (v_b : (List Int)) (v_i : Int) : Wp (laws_eqIntS_L1_body v_a v_b v_i) (Sum.elim
    (fun w => VEx PP 26 0 (nodeAt (bodyOf PP 12) [1, 1, 0, 1, 0, 0]) .normal (laws_eqIntS_L1_head v_a v_b v_i) (laws_eqIntS_L1_head v_a v_b w))
    (fun r => VEx PP 26 0 (nodeAt (bodyOf PP 12) [1, 1, 0, 1, 0, 0]) (laws_eqIntS_L1_ex r) (laws_eqIntS_L1_head v_a v_b v_i) (laws_eqIntS_L1_out v_a v_b r))) := by
  unfold laws_eqIntS_L1_body
  exact .ite (fun h1 =>
      .grd fun h2 =>
       .bnd fun x3 h4 =>
       .grd fun h5 =>
       .bnd fun x6 h7 =>
       .ite (fun h8 =>
       .ret ((okC_sound hmix (tape := [.reg [nt, nt, nt, nt], .br true, .reg [nt, nt, nt, (.el (eI x3), true), nt, nt, nt, (.el (eI x6), true), nt], .br true, .reg [nt], .rst [] [] [(4, ii)]]) (nr := 0) (by kernel_rfl) (.cons h1 (.cons ((h2).1) (.cons (lt_mapI (h2).2 : v_i < ((v_a.map eI).length : Nat)) (.cons (map_get h4 : (v_a.map eI)[v_i.toNat]? = some (eI x3)) (.cons ((h5).1) (.cons (lt_mapI (h5).2 : v_i < ((v_b.map eI).length : Nat)) (.cons (map_get h7 : (v_b.map eI)[v_i.toNat]? = some (eI x6)) (.cons h8 .nil)))))))) (mkS_free _ _) : VEx PP 26 0 (nodeAt (bodyOf PP 12) [1, 1, 0, 1, 0, 0]) (.ret) (laws_eqIntS_L1_head v_a v_b v_i) (laws_eqIntS_L1_out v_a v_b (.inr ())))))
       (fun h8 =>
       .ret ((okC_sound hmix (tape := [.reg [nt, nt, nt, nt], .br true, .reg [nt, nt, nt, (.el (eI x3), true), nt, nt, nt, (.el (eI x6), true), nt], .br false, .reg [nt, nt, nt], .rst [] [] [(0, ii), (1, ii), (5, ii)]]) (nr := 0) (by kernel_rfl) (.cons h1 (.cons ((h2).1) (.cons (lt_mapI (h2).2 : v_i < ((v_a.map eI).length : Nat)) (.cons (map_get h4 : (v_a.map eI)[v_i.toNat]? = some (eI x3)) (.cons ((h5).1) (.cons (lt_mapI (h5).2 : v_i < ((v_b.map eI).length : Nat)) (.cons (map_get h7 : (v_b.map eI)[v_i.toNat]? = some (eI x6)) (.cons h8 .nil)))))))) (mkS_free _ _) : VEx PP 26 0 (nodeAt (bodyOf PP 12) [1, 1, 0, 1, 0, 0]) .normal (laws_eqIntS_L1_head v_a v_b v_i) (laws_eqIntS_L1_head v_a v_b (w64 (v_i + (1 : Int))))))))
      (fun h1 =>
      .ret ((okC_sound hmix (tape := [.reg [nt, nt, nt, nt], .br false, .rst [] [] []]) (nr := 0) (by kernel_rfl) (.cons h1 .nil) (mkS_free _ _) : VEx PP 26 0 (nodeAt (bodyOf PP 12) [1, 1, 0, 1, 0, 0]) (.exit 0) (laws_eqIntS_L1_head v_a v_b v_i) (laws_eqIntS_L1_out v_a v_b (.inl ())))))

theorem laws_eqIntS_L1_ok (v_a : (List Int)) (v_b : (List Int)) (v_i : Int) : ∀ r, laws_eqIntS_L1 v_a v_b v_i = some r → VLoop PP 26 0 (nodeAt (bodyOf PP 12) [1, 1, 0, 1, 0, 0]) (laws_eqIntS_L1_ex r) (laws_eqIntS_L1_head v_a v_b v_i) (laws_eqIntS_L1_out v_a v_b r) := fun r h =>
  iter_ok (head := fun w : Int => laws_eqIntS_L1_head v_a v_b w) (ex := laws_eqIntS_L1_ex) (out := laws_eqIntS_L1_out v_a v_b) (by intro r; unfold laws_eqIntS_L1_ex; split <;> simp) (fun w => laws_eqIntS_L1_body_ok v_a v_b w) v_i r h

def laws_eqIntS (v_a : (List Int)) (v_b : (List Int)) : Option Bool :=
  if ((len_ eI v_a) != (len_ eI v_b)) = true then
    some false
  else
    laws_eqIntS_L1 v_a v_b 0 >>= fun r2 =>
    match r2 with
    | .inl a4 => (some true)
    | .inr a4 => (some false)

theorem laws_eqIntS_ok (v_a : (List Int)) (v_b : (List Int)) : Wp (laws_eqIntS v_a v_b) (fun r => Con PP 12 [.isl 1 (v_a.map eI), .isl 1 (v_b.map eI)] [] (.b r) []) := by
  unfold laws_eqIntS
  exact .ite (fun h1 =>
    .ret (runF_con0 hmix (tape := [.reg [nt], .reg [nt, nt, nt, nt, nt], .br true, .reg [nt]]) (rr := ii) (by kernel_rfl) (.cons h1 .nil)))
    (fun h1 =>
    .bnd fun r2 h3 =>
     match r2, h3 with
     | .inl a4, h3 => (.ret (runF_con0 hmix (tape := [.reg [nt], .reg [nt, nt, nt, nt, nt], .br false, .reg [nt], .rst [] [] [(0, ii), (1, ii), (5, ii)], .sub (.exit 0) [] [], .reg [nt]]) (rr := ii) (by kernel_rfl) (.cons h1 (.cons ((laws_eqIntS_L1_ok v_a v_b 0 (.inl a4) h3).vex) .nil))))
     | .inr a4, h3 => (.ret (runF_con0 hmix (tape := [.reg [nt], .reg [nt, nt, nt, nt, nt], .br false, .reg [nt], .rst [] [] [(0, ii), (1, ii), (5, ii)], .sub (.ret) [(4, .b false)] []]) (rr := ii) (by kernel_rfl) (.cons h1 (.cons ((laws_eqIntS_L1_ok v_a v_b 0 (.inr a4) h3).vex) .nil)))))

def laws_eqBigInt (v_a : TBigInt) (v_b : TBigInt) : Option Bool :=
  if (v_a.fNeg == v_b.fNeg) = true then
    laws_eqIntS v_a.fMag v_b.fMag >>= fun r2 =>
    if r2 = true then
      some true
    else
      some false
  else
    some false

theorem laws_eqBigInt_ok (v_a : TBigInt) (v_b : TBigInt) : Wp (laws_eqBigInt v_a v_b) (fun r => Con PP 78 [.agg [.b v_a.fNeg, .isl 1 (v_a.fMag.map eI)], .agg [.b v_b.fNeg, .isl 1 (v_b.fMag.map eI)]] [] (.b r) []) := by
  unfold laws_eqBigInt
  exact .ite (fun h1 =>
    .bnd fun r2 h3 =>
     .ite (fun h4 =>
     .ret (runF_con0 hmix (tape := [.reg [nt, nt, nt], .reg [nt, nt, nt, nt, nt], .br false, .reg [nt, nt, nt, nt, (.call { ac := [ii, ii], r := .b r2, sc := true }, true), nt], .br false, .reg [nt]]) (rr := ii) (by kernel_rfl) (.cons (not_t h1) (.cons (laws_eqIntS_ok v_a.fMag v_b.fMag r2 h3) (.cons (Sc.b _ : Sc (.b r2)) (.cons (not_t h4) .nil))))))
     (fun h4 =>
     .ret (runF_con0 hmix (tape := [.reg [nt, nt, nt], .reg [nt, nt, nt, nt, nt], .br false, .reg [nt, nt, nt, nt, (.call { ac := [ii, ii], r := .b r2, sc := true }, true), nt], .br true, .reg [nt]]) (rr := ii) (by kernel_rfl) (.cons (not_t h1) (.cons (laws_eqIntS_ok v_a.fMag v_b.fMag r2 h3) (.cons (Sc.b _ : Sc (.b r2)) (.cons (not_f h4) .nil)))))))
    (fun h1 =>
    .ret (runF_con0 hmix (tape := [.reg [nt, nt, nt], .reg [nt, nt, nt, nt, nt], .br true, .reg [nt]]) (rr := ii) (by kernel_rfl) (.cons (not_f h1) .nil)))

def laws_eqRat (v_a : TRat) (v_b : TRat) : Option Bool :=
  laws_eqBigInt v_a.fNum v_b.fNum >>= fun r1 =>
  if r1 = true then
    laws_eqIntS v_a.fDen v_b.fDen >>= fun r4 =>
    if r4 = true then
      some true
    else
      some false
  else
    some false

theorem laws_eqRat_ok (v_a : TRat) (v_b : TRat) : Wp (laws_eqRat v_a v_b) (fun r => Con PP 44 [.agg [.b v_a.fNum.fNeg, .isl 1 (v_a.fNum.fMag.map eI), .isl 1 (v_a.fDen.map eI)], .agg [.b v_b.fNum.fNeg, .isl 1 (v_b.fNum.fMag.map eI), .isl 1 (v_b.fDen.map eI)]] [] (.b r) []) := by
  unfold laws_eqRat
  exact .bnd fun r1 h2 =>
    .ite (fun h3 =>
    .bnd fun r4 h5 =>
     .ite (fun h6 =>
     .ret (runF_con0 hmix (tape := [.reg [nt, nt, nt], .reg [nt, nt, nt, nt, (.call { ac := [ii, ii], r := .b r1, sc := true }, true), nt], .br false, .reg [nt, nt, nt, nt, (.call { ac := [ii, ii], r := .b r4, sc := true }, true), nt], .br false, .reg [nt]]) (rr := ii) (by kernel_rfl) (.cons (laws_eqBigInt_ok v_a.fNum v_b.fNum r1 h2) (.cons (Sc.b _ : Sc (.b r1)) (.cons (not_t h3) (.cons (laws_eqIntS_ok v_a.fDen v_b.fDen r4 h5) (.cons (Sc.b _ : Sc (.b r4)) (.cons (not_t h6) .nil))))))))
     (fun h6 =>
     .ret (runF_con0 hmix (tape := [.reg [nt, nt, nt], .reg [nt, nt, nt, nt, (.call { ac := [ii, ii], r := .b r1, sc := true }, true), nt], .br false, .reg [nt, nt, nt, nt, (.call { ac := [ii, ii], r := .b r4, sc := true }, true), nt], .br true, .reg [nt]]) (rr := ii) (by kernel_rfl) (.cons (laws_eqBigInt_ok v_a.fNum v_b.fNum r1 h2) (.cons (Sc.b _ : Sc (.b r1)) (.cons (not_t h3) (.cons (laws_eqIntS_ok v_a.fDen v_b.fDen r4 h5) (.cons (Sc.b _ : Sc (.b r4)) (.cons (not_f h6) .nil)))))))))
    (fun h3 =>
    .ret (runF_con0 hmix (tape := [.reg [nt, nt, nt], .reg [nt, nt, nt, nt, (.call { ac := [ii, ii], r := .b r1, sc := true }, true), nt], .br true, .reg [nt]]) (rr := ii) (by kernel_rfl) (.cons (laws_eqBigInt_ok v_a.fNum v_b.fNum r1 h2) (.cons (Sc.b _ : Sc (.b r1)) (.cons (not_f h3) .nil)))))

def laws_eqRatS_L1_head (v_a : (List TRat)) (v_b : (List TRat)) (v_i : Int) : S := mkS [(0, .isl 3 (v_a.map eTRat)), (1, .isl 3 (v_b.map eTRat)), (5, .n .i64 v_i)] []

def laws_eqRatS_L1_ex : ((Unit) ⊕ (Unit)) → Exit
  | .inl _ => .exit 0
  | .inr _ => .ret

def laws_eqRatS_L1_out (v_a : (List TRat)) (v_b : (List TRat)) : ((Unit) ⊕ (Unit)) → S
  | .inl a => mkS [] []
  | .inr a => mkS [(4, .b false)] []

def laws_eqRatS_L1_body (v_a : (List TRat)) (v_b : (List TRat)) (v_i : Int) : Option ((Int) ⊕ ((Unit) ⊕ (Unit))) :=
  if (decide (v_i < (len_ eTRat v_a))) = true then
    if 0 ≤ v_i ∧ v_i < v_a.length then
    v_a[v_i.toNat]? >>= fun x3 =>
    if 0 ≤ v_i ∧ v_i < v_b.length then
    v_b[v_i.toNat]? >>= fun x6 =>
    laws_eqRat x3 x6 >>= fun r8 =>
    if r8 = true then
      some (.inl (w64 (v_i + (1 : Int))))
    else
      some (.inr (.inr ()))
    else none
    else none
  else
    some (.inr (.inl ()))

def laws_eqRatS_L1 (v_a : (List TRat)) (v_b : (List TRat)) (v_i : Int) : Option ((Unit) ⊕ (Unit)) := iter (fun w : Int => laws_eqRatS_L1_body v_a v_b w) v_i

theorem laws_eqRatS_L1_body_ok (v_a : (List TRat)) (v_b : (List TRat)) (v_i : Int) : Wp (laws_eqRatS_L1_body v_a v_b v_i) (Sum.elim
    (fun w => VEx PP 27 0 (nodeAt (bodyOf PP 13) [1, 1, 0, 1, 0, 0]) .normal (laws_eqRatS_L1_head v_a v_b v_i) (laws_eqRatS_L1_head v_a v_b w))
    (fun r => VEx PP 27 0 (nodeAt (bodyOf PP 13) [1, 1, 0, 1, 0, 0]) (laws_eqRatS_L1_ex r) (laws_eqRatS_L1_head v_a v_b v_i) (laws_eqRatS_L1_out v_a v_b r))) := by
  unfold laws_eqRatS_L1_body
  exact .ite (fun h1 =>
      .grd fun h2 =>
       .bnd fun x3 h4 =>
       .grd fun h5 =>
       .bnd fun x6 h7 =>
       .bnd fun r8 h9 =>
       .ite (fun h10 =>
       .ret ((okC_sound hmix (tape := [.reg [nt, nt, nt, nt], .br true, .reg [nt, nt, nt, (.el (eTRat x3), true), nt, nt, nt, (.el (eTRat x6), true), (.call { ac := [ii, ii], r := .b r8, sc := true }, true), nt], .br false, .reg [nt, nt, nt], .rst [] [] [(0, ii), (1, ii), (5, ii)]]) (nr := 0) (by kernel_rfl) (.cons h1 (.cons ((h2).1) (.cons (lt_mapI (h2).2 : v_i < ((v_a.map eTRat).length : Nat)) (.cons (map_get h4 : (v_a.map eTRat)[v_i.toNat]? = some (eTRat x3)) (.cons ((h5).1) (.cons (lt_mapI (h5).2 : v_i < ((v_b.map eTRat).length : Nat)) (.cons (map_get h7 : (v_b.map eTRat)[v_i.toNat]? = some (eTRat x6)) (.cons (laws_eqRat_ok x3 x6 r8 h9) (.cons (Sc.b _ : Sc (.b r8)) (.cons (not_t h10) .nil)))))))))) (mkS_free _ _) : VEx PP 27 0 (nodeAt (bodyOf PP 13) [1, 1, 0, 1, 0, 0]) .normal (laws_eqRatS_L1_head v_a v_b v_i) (laws_eqRatS_L1_head v_a v_b (w64 (v_i + (1 : Int)))))))
       (fun h10 =>
       .ret ((okC_sound hmix (tape := [.reg [nt, nt, nt, nt], .br true, .reg [nt, nt, nt, (.el (eTRat x3), true), nt, nt, nt, (.el (eTRat x6), true), (.call { ac := [ii, ii], r := .b r8, sc := true }, true), nt], .br true, .reg [nt], .rst [] [] [(4, ii)]]) (nr := 0) (by kernel_rfl) (.cons h1 (.cons ((h2).1) (.cons (lt_mapI (h2).2 : v_i < ((v_a.map eTRat).length : Nat)) (.cons (map_get h4 : (v_a.map eTRat)[v_i.toNat]? = some (eTRat x3)) (.cons ((h5).1) (.cons (lt_mapI (h5).2 : v_i < ((v_b.map eTRat).length : Nat)) (.cons (map_get h7 : (v_b.map eTRat)[v_i.toNat]? = some (eTRat x6)) (.cons (laws_eqRat_ok x3 x6 r8 h9) (.cons (Sc.b _ : Sc (.b r8)) (.cons (not_f h10) .nil)))))))))) (mkS_free _ _) : VEx PP 27 0 (nodeAt (bodyOf PP 13) [1, 1, 0, 1, 0, 0]) (.ret) (laws_eqRatS_L1_head v_a v_b v_i) (laws_eqRatS_L1_out v_a v_b (.inr ()))))))
      (fun h1 =>
      .ret ((okC_sound hmix (tape := [.reg [nt, nt, nt, nt], .br false, .rst [] [] []]) (nr := 0) (by kernel_rfl) (.cons h1 .nil) (mkS_free _ _) : VEx PP 27 0 (nodeAt (bodyOf PP 13) [1, 1, 0, 1, 0, 0]) (.exit 0) (laws_eqRatS_L1_head v_a v_b v_i) (laws_eqRatS_L1_out v_a v_b (.inl ())))))

theorem laws_eqRatS_L1_ok (v_a : (List TRat)) (v_b : (List TRat)) (v_i : Int) : ∀ r, laws_eqRatS_L1 v_a v_b v_i = some r → VLoop PP 27 0 (nodeAt (bodyOf PP 13) [1, 1, 0, 1, 0, 0]) (laws_eqRatS_L1_ex r) (laws_eqRatS_L1_head v_a v_b v_i) (laws_eqRatS_L1_out v_a v_b r) := fun r h =>
  iter_ok (head := fun w : Int => laws_eqRatS_L1_head v_a v_b w) (ex := laws_eqRatS_L1_ex) (out := laws_eqRatS_L1_out v_a v_b) (by intro r; unfold laws_eqRatS_L1_ex; split <;> simp) (fun w => laws_eqRatS_L1_body_ok v_a v_b w) v_i r h

def laws_eqRatS (v_a : (List TRat)) (v_b : (List TRat)) : Option Bool :=
  if ((len_ eTRat v_a) != (len_ eTRat v_b)) = true then
    some false
  else
    laws_eqRatS_L1 v_a v_b 0 >>= fun r2 =>
    match r2 with
    | .inl a4 => (some true)
    | .inr a4 => (some false)

theorem laws_eqRatS_ok (v_a : (List TRat)) (v_b : (List TRat)) : Wp (laws_eqRatS v_a v_b) (fun r => Con PP 13 [.isl 3 (v_a.map eTRat), .isl 3 (v_b.map eTRat)] [] (.b r) []) := by
  unfold laws_eqRatS
  exact .ite (fun h1 =>
    .ret (runF_con0 hmix (tape := [.reg [nt], .reg [nt, nt, nt, nt, nt], .br true, .reg [nt]]) (rr := ii) (by kernel_rfl) (.cons h1 .nil)))
    (fun h1 =>
    .bnd fun r2 h3 =>
     match r2, h3 with
     | .inl a4, h3 => (.ret (runF_con0 hmix (tape := [.reg [nt], .reg [nt, nt, nt, nt, nt], .br false, .reg [nt], .rst [] [] [(0, ii), (1, ii), (5, ii)], .sub (.exit 0) [] [], .reg [nt]]) (rr := ii) (by kernel_rfl) (.cons h1 (.cons ((laws_eqRatS_L1_ok v_a v_b 0 (.inl a4) h3).vex) .nil))))
     | .inr a4, h3 => (.ret (runF_con0 hmix (tape := [.reg [nt], .reg [nt, nt, nt, nt, nt], .br false, .reg [nt], .rst [] [] [(0, ii), (1, ii), (5, ii)], .sub (.ret) [(4, .b false)] []]) (rr := ii) (by kernel_rfl) (.cons h1 (.cons ((laws_eqRatS_L1_ok v_a v_b 0 (.inr a4) h3).vex) .nil)))))

def laws_FnExactIsForm (v_aS : TStructure) (v_aL : (List Int)) (v_aQ : (List TRat)) (v_aPlaces : (List TRat)) : Option Bool :=
  if (decide ((1048576 : Int) < (len_ eI v_aL))) = true then
    some true
  else
    laws_szStructure v_aS 1048576 >>= fun r2 =>
    if (decide (r2 < (0 : Int))) = true then
      some true
    else
      laws_szRatS v_aQ r2 >>= fun r5 =>
      if (decide (r5 < (0 : Int))) = true then
        some true
      else
        laws_szRatS v_aPlaces r5 >>= fun r8 =>
        if (decide (r8 < (0 : Int))) = true then
          some true
        else
          laws_toStructure v_aS >>= fun r11 =>
          laws_toIntS v_aL >>= fun r13 =>
          laws_toRatS v_aQ >>= fun r15 =>
          laws_toRatS v_aPlaces >>= fun r17 =>
          spec_IsForm r11 r13 r15 r17 >>= fun r19 =>
          impl_IsForm r11 r13 r15 r17 >>= fun r21 =>
          if (r21 == r19) = true then
            laws_eqStructure r11 r11 >>= fun r24 =>
            if r24 = true then
              laws_eqIntS r13 r13 >>= fun r27 =>
              if r27 = true then
                laws_eqRatS r15 r15 >>= fun r30 =>
                if r30 = true then
                  laws_eqRatS r17 r17 >>= fun r33 =>
                  if r33 = true then
                    some true
                  else
                    some false
                else
                  some false
              else
                some false
            else
              some false
          else
            some false

theorem laws_FnExactIsForm_ok (v_aS : TStructure) (v_aL : (List Int)) (v_aQ : (List TRat)) (v_aPlaces : (List TRat)) : Wp (laws_FnExactIsForm v_aS v_aL v_aQ v_aPlaces) (fun r => Con PP 3 [.agg [.isl 4 (v_aS.fJoints.map eTJoint), .isl 3 (v_aS.fMembers.map eTMember)], .isl 1 (v_aL.map eI), .isl 3 (v_aQ.map eTRat), .isl 3 (v_aPlaces.map eTRat)] [] (.b r) []) := by
  unfold laws_FnExactIsForm
  exact .ite (fun h1 =>
    .ret (runF_con0 hmix (tape := [.reg [nt, nt], .reg [nt, nt, nt], .br true, .reg [nt]]) (rr := ii) (by kernel_rfl) (.cons h1 .nil)))
    (fun h1 =>
    .bnd fun r2 h3 =>
     .ite (fun h4 =>
     .ret (runF_con0 hmix (tape := [.reg [nt, nt], .reg [nt, nt, nt], .br false, .reg [nt], .reg [nt, nt, (.call { ac := [ii, ii], r := .n .i64 r2, sc := true }, true), nt], .reg [nt, nt], .br true, .reg [nt]]) (rr := ii) (by kernel_rfl) (.cons h1 (.cons (laws_szStructure_ok v_aS 1048576 r2 h3) (.cons (Sc.n _ _ : Sc (.n .i64 r2)) (.cons h4 .nil))))))
     (fun h4 =>
     .bnd fun r5 h6 =>
      .ite (fun h7 =>
      .ret (runF_con0 hmix (tape := [.reg [nt, nt], .reg [nt, nt, nt], .br false, .reg [nt], .reg [nt, nt, (.call { ac := [ii, ii], r := .n .i64 r2, sc := true }, true), nt], .reg [nt, nt], .br false, .reg [nt, nt, (.call { ac := [ii, ii], r := .n .i64 r5, sc := true }, true), nt], .reg [nt, nt], .br true, .reg [nt]]) (rr := ii) (by kernel_rfl) (.cons h1 (.cons (laws_szStructure_ok v_aS 1048576 r2 h3) (.cons (Sc.n _ _ : Sc (.n .i64 r2)) (.cons h4 (.cons (laws_szRatS_ok v_aQ r2 r5 h6) (.cons (Sc.n _ _ : Sc (.n .i64 r5)) (.cons h7 .nil)))))))))
      (fun h7 =>
      .bnd fun r8 h9 =>
       .ite (fun h10 =>
       .ret (runF_con0 hmix (tape := [.reg [nt, nt], .reg [nt, nt, nt], .br false, .reg [nt], .reg [nt, nt, (.call { ac := [ii, ii], r := .n .i64 r2, sc := true }, true), nt], .reg [nt, nt], .br false, .reg [nt, nt, (.call { ac := [ii, ii], r := .n .i64 r5, sc := true }, true), nt], .reg [nt, nt], .br false, .reg [nt, nt, (.call { ac := [ii, ii], r := .n .i64 r8, sc := true }, true), nt], .reg [nt, nt], .br true, .reg [nt]]) (rr := ii) (by kernel_rfl) (.cons h1 (.cons (laws_szStructure_ok v_aS 1048576 r2 h3) (.cons (Sc.n _ _ : Sc (.n .i64 r2)) (.cons h4 (.cons (laws_szRatS_ok v_aQ r2 r5 h6) (.cons (Sc.n _ _ : Sc (.n .i64 r5)) (.cons h7 (.cons (laws_szRatS_ok v_aPlaces r5 r8 h9) (.cons (Sc.n _ _ : Sc (.n .i64 r8)) (.cons h10 .nil))))))))))))
       (fun h10 =>
       .bnd fun r11 h12 =>
        .bnd fun r13 h14 =>
        .bnd fun r15 h16 =>
        .bnd fun r17 h18 =>
        .bnd fun r19 h20 =>
        .bnd fun r21 h22 =>
        .ite (fun h23 =>
        .bnd fun r24 h25 =>
         .ite (fun h26 =>
         .bnd fun r27 h28 =>
          .ite (fun h29 =>
          .bnd fun r30 h31 =>
           .ite (fun h32 =>
           .bnd fun r33 h34 =>
            .ite (fun h35 =>
            .ret (runF_con0 hmix (tape := [.reg [nt, nt], .reg [nt, nt, nt], .br false, .reg [nt], .reg [nt, nt, (.call { ac := [ii, ii], r := .n .i64 r2, sc := true }, true), nt], .reg [nt, nt], .br false, .reg [nt, nt, (.call { ac := [ii, ii], r := .n .i64 r5, sc := true }, true), nt], .reg [nt, nt], .br false, .reg [nt, nt, (.call { ac := [ii, ii], r := .n .i64 r8, sc := true }, true), nt], .reg [nt, nt], .br false, .reg [nt, (.call { ac := [ii], r := .agg [.isl 4 (r11.fJoints.map eTJoint), .isl 3 (r11.fMembers.map eTMember)], sc := false }, true), nt, (.call { ac := [ii], r := .isl 1 (r13.map eI), sc := false }, true), nt, (.call { ac := [ii], r := .isl 3 (r15.map eTRat), sc := false }, true), nt, (.call { ac := [ii], r := .isl 3 (r17.map eTRat), sc := false }, true), (.call { ac := [ii, ii, ii, ii], r := .b r19, sc := true }, true), nt], .reg [nt, (.call { ac := [ii], r := .agg [.isl 4 (r11.fJoints.map eTJoint), .isl 3 (r11.fMembers.map eTMember)], sc := false }, true), nt, nt], .reg [nt, (.call { ac := [ii], r := .isl 1 (r13.map eI), sc := false }, true), nt], .reg [nt, (.call { ac := [ii], r := .isl 3 (r15.map eTRat), sc := false }, true), nt], .reg [nt, (.call { ac := [ii], r := .isl 3 (r17.map eTRat), sc := false }, true), nt], .reg [nt, nt, nt, nt, (.call { ac := [ii, ii, ii, ii], r := .b r21, sc := true }, true), nt], .reg [nt, nt, nt], .br false, .reg [nt, nt, (.call { ac := [ii], r := .agg [.isl 4 (r11.fJoints.map eTJoint), .isl 3 (r11.fMembers.map eTMember)], sc := false }, true), (.call { ac := [ii, ii], r := .b r24, sc := true }, true), nt], .br false, .reg [nt, nt, (.call { ac := [ii], r := .isl 1 (r13.map eI), sc := false }, true), (.call { ac := [ii, ii], r := .b r27, sc := true }, true), nt], .br false, .reg [nt, nt, (.call { ac := [ii], r := .isl 3 (r15.map eTRat), sc := false }, true), (.call { ac := [ii, ii], r := .b r30, sc := true }, true), nt], .br false, .reg [nt, nt, (.call { ac := [ii], r := .isl 3 (r17.map eTRat), sc := false }, true), (.call { ac := [ii, ii], r := .b r33, sc := true }, true), nt], .br false, .reg [nt]]) (rr := ii) (by kernel_rfl) (.cons h1 (.cons (laws_szStructure_ok v_aS 1048576 r2 h3) (.cons (Sc.n _ _ : Sc (.n .i64 r2)) (.cons h4 (.cons (laws_szRatS_ok v_aQ r2 r5 h6) (.cons (Sc.n _ _ : Sc (.n .i64 r5)) (.cons h7 (.cons (laws_szRatS_ok v_aPlaces r5 r8 h9) (.cons (Sc.n _ _ : Sc (.n .i64 r8)) (.cons h10 (.cons (laws_toStructure_ok v_aS r11 h12) (.cons (laws_toIntS_ok v_aL r13 h14) (.cons (laws_toRatS_ok v_aQ r15 h16) (.cons (laws_toRatS_ok v_aPlaces r17 h18) (.cons (spec_IsForm_ok r11 r13 r15 r17 r19 h20) (.cons (Sc.b _ : Sc (.b r19)) (.cons (laws_toStructure_ok v_aS r11 h12) (.cons (laws_toIntS_ok v_aL r13 h14) (.cons (laws_toRatS_ok v_aQ r15 h16) (.cons (laws_toRatS_ok v_aPlaces r17 h18) (.cons (impl_IsForm_ok r11 r13 r15 r17 r21 h22) (.cons (Sc.b _ : Sc (.b r21)) (.cons (not_t h23) (.cons (laws_toStructure_ok v_aS r11 h12) (.cons (laws_eqStructure_ok r11 r11 r24 h25) (.cons (Sc.b _ : Sc (.b r24)) (.cons (not_t h26) (.cons (laws_toIntS_ok v_aL r13 h14) (.cons (laws_eqIntS_ok r13 r13 r27 h28) (.cons (Sc.b _ : Sc (.b r27)) (.cons (not_t h29) (.cons (laws_toRatS_ok v_aQ r15 h16) (.cons (laws_eqRatS_ok r15 r15 r30 h31) (.cons (Sc.b _ : Sc (.b r30)) (.cons (not_t h32) (.cons (laws_toRatS_ok v_aPlaces r17 h18) (.cons (laws_eqRatS_ok r17 r17 r33 h34) (.cons (Sc.b _ : Sc (.b r33)) (.cons (not_t h35) .nil)))))))))))))))))))))))))))))))))))))))))
            (fun h35 =>
            .ret (runF_con0 hmix (tape := [.reg [nt, nt], .reg [nt, nt, nt], .br false, .reg [nt], .reg [nt, nt, (.call { ac := [ii, ii], r := .n .i64 r2, sc := true }, true), nt], .reg [nt, nt], .br false, .reg [nt, nt, (.call { ac := [ii, ii], r := .n .i64 r5, sc := true }, true), nt], .reg [nt, nt], .br false, .reg [nt, nt, (.call { ac := [ii, ii], r := .n .i64 r8, sc := true }, true), nt], .reg [nt, nt], .br false, .reg [nt, (.call { ac := [ii], r := .agg [.isl 4 (r11.fJoints.map eTJoint), .isl 3 (r11.fMembers.map eTMember)], sc := false }, true), nt, (.call { ac := [ii], r := .isl 1 (r13.map eI), sc := false }, true), nt, (.call { ac := [ii], r := .isl 3 (r15.map eTRat), sc := false }, true), nt, (.call { ac := [ii], r := .isl 3 (r17.map eTRat), sc := false }, true), (.call { ac := [ii, ii, ii, ii], r := .b r19, sc := true }, true), nt], .reg [nt, (.call { ac := [ii], r := .agg [.isl 4 (r11.fJoints.map eTJoint), .isl 3 (r11.fMembers.map eTMember)], sc := false }, true), nt, nt], .reg [nt, (.call { ac := [ii], r := .isl 1 (r13.map eI), sc := false }, true), nt], .reg [nt, (.call { ac := [ii], r := .isl 3 (r15.map eTRat), sc := false }, true), nt], .reg [nt, (.call { ac := [ii], r := .isl 3 (r17.map eTRat), sc := false }, true), nt], .reg [nt, nt, nt, nt, (.call { ac := [ii, ii, ii, ii], r := .b r21, sc := true }, true), nt], .reg [nt, nt, nt], .br false, .reg [nt, nt, (.call { ac := [ii], r := .agg [.isl 4 (r11.fJoints.map eTJoint), .isl 3 (r11.fMembers.map eTMember)], sc := false }, true), (.call { ac := [ii, ii], r := .b r24, sc := true }, true), nt], .br false, .reg [nt, nt, (.call { ac := [ii], r := .isl 1 (r13.map eI), sc := false }, true), (.call { ac := [ii, ii], r := .b r27, sc := true }, true), nt], .br false, .reg [nt, nt, (.call { ac := [ii], r := .isl 3 (r15.map eTRat), sc := false }, true), (.call { ac := [ii, ii], r := .b r30, sc := true }, true), nt], .br false, .reg [nt, nt, (.call { ac := [ii], r := .isl 3 (r17.map eTRat), sc := false }, true), (.call { ac := [ii, ii], r := .b r33, sc := true }, true), nt], .br true, .reg [nt]]) (rr := ii) (by kernel_rfl) (.cons h1 (.cons (laws_szStructure_ok v_aS 1048576 r2 h3) (.cons (Sc.n _ _ : Sc (.n .i64 r2)) (.cons h4 (.cons (laws_szRatS_ok v_aQ r2 r5 h6) (.cons (Sc.n _ _ : Sc (.n .i64 r5)) (.cons h7 (.cons (laws_szRatS_ok v_aPlaces r5 r8 h9) (.cons (Sc.n _ _ : Sc (.n .i64 r8)) (.cons h10 (.cons (laws_toStructure_ok v_aS r11 h12) (.cons (laws_toIntS_ok v_aL r13 h14) (.cons (laws_toRatS_ok v_aQ r15 h16) (.cons (laws_toRatS_ok v_aPlaces r17 h18) (.cons (spec_IsForm_ok r11 r13 r15 r17 r19 h20) (.cons (Sc.b _ : Sc (.b r19)) (.cons (laws_toStructure_ok v_aS r11 h12) (.cons (laws_toIntS_ok v_aL r13 h14) (.cons (laws_toRatS_ok v_aQ r15 h16) (.cons (laws_toRatS_ok v_aPlaces r17 h18) (.cons (impl_IsForm_ok r11 r13 r15 r17 r21 h22) (.cons (Sc.b _ : Sc (.b r21)) (.cons (not_t h23) (.cons (laws_toStructure_ok v_aS r11 h12) (.cons (laws_eqStructure_ok r11 r11 r24 h25) (.cons (Sc.b _ : Sc (.b r24)) (.cons (not_t h26) (.cons (laws_toIntS_ok v_aL r13 h14) (.cons (laws_eqIntS_ok r13 r13 r27 h28) (.cons (Sc.b _ : Sc (.b r27)) (.cons (not_t h29) (.cons (laws_toRatS_ok v_aQ r15 h16) (.cons (laws_eqRatS_ok r15 r15 r30 h31) (.cons (Sc.b _ : Sc (.b r30)) (.cons (not_t h32) (.cons (laws_toRatS_ok v_aPlaces r17 h18) (.cons (laws_eqRatS_ok r17 r17 r33 h34) (.cons (Sc.b _ : Sc (.b r33)) (.cons (not_f h35) .nil))))))))))))))))))))))))))))))))))))))))))
           (fun h32 =>
           .ret (runF_con0 hmix (tape := [.reg [nt, nt], .reg [nt, nt, nt], .br false, .reg [nt], .reg [nt, nt, (.call { ac := [ii, ii], r := .n .i64 r2, sc := true }, true), nt], .reg [nt, nt], .br false, .reg [nt, nt, (.call { ac := [ii, ii], r := .n .i64 r5, sc := true }, true), nt], .reg [nt, nt], .br false, .reg [nt, nt, (.call { ac := [ii, ii], r := .n .i64 r8, sc := true }, true), nt], .reg [nt, nt], .br false, .reg [nt, (.call { ac := [ii], r := .agg [.isl 4 (r11.fJoints.map eTJoint), .isl 3 (r11.fMembers.map eTMember)], sc := false }, true), nt, (.call { ac := [ii], r := .isl 1 (r13.map eI), sc := false }, true), nt, (.call { ac := [ii], r := .isl 3 (r15.map eTRat), sc := false }, true), nt, (.call { ac := [ii], r := .isl 3 (r17.map eTRat), sc := false }, true), (.call { ac := [ii, ii, ii, ii], r := .b r19, sc := true }, true), nt], .reg [nt, (.call { ac := [ii], r := .agg [.isl 4 (r11.fJoints.map eTJoint), .isl 3 (r11.fMembers.map eTMember)], sc := false }, true), nt, nt], .reg [nt, (.call { ac := [ii], r := .isl 1 (r13.map eI), sc := false }, true), nt], .reg [nt, (.call { ac := [ii], r := .isl 3 (r15.map eTRat), sc := false }, true), nt], .reg [nt, (.call { ac := [ii], r := .isl 3 (r17.map eTRat), sc := false }, true), nt], .reg [nt, nt, nt, nt, (.call { ac := [ii, ii, ii, ii], r := .b r21, sc := true }, true), nt], .reg [nt, nt, nt], .br false, .reg [nt, nt, (.call { ac := [ii], r := .agg [.isl 4 (r11.fJoints.map eTJoint), .isl 3 (r11.fMembers.map eTMember)], sc := false }, true), (.call { ac := [ii, ii], r := .b r24, sc := true }, true), nt], .br false, .reg [nt, nt, (.call { ac := [ii], r := .isl 1 (r13.map eI), sc := false }, true), (.call { ac := [ii, ii], r := .b r27, sc := true }, true), nt], .br false, .reg [nt, nt, (.call { ac := [ii], r := .isl 3 (r15.map eTRat), sc := false }, true), (.call { ac := [ii, ii], r := .b r30, sc := true }, true), nt], .br true, .reg [nt]]) (rr := ii) (by kernel_rfl) (.cons h1 (.cons (laws_szStructure_ok v_aS 1048576 r2 h3) (.cons (Sc.n _ _ : Sc (.n .i64 r2)) (.cons h4 (.cons (laws_szRatS_ok v_aQ r2 r5 h6) (.cons (Sc.n _ _ : Sc (.n .i64 r5)) (.cons h7 (.cons (laws_szRatS_ok v_aPlaces r5 r8 h9) (.cons (Sc.n _ _ : Sc (.n .i64 r8)) (.cons h10 (.cons (laws_toStructure_ok v_aS r11 h12) (.cons (laws_toIntS_ok v_aL r13 h14) (.cons (laws_toRatS_ok v_aQ r15 h16) (.cons (laws_toRatS_ok v_aPlaces r17 h18) (.cons (spec_IsForm_ok r11 r13 r15 r17 r19 h20) (.cons (Sc.b _ : Sc (.b r19)) (.cons (laws_toStructure_ok v_aS r11 h12) (.cons (laws_toIntS_ok v_aL r13 h14) (.cons (laws_toRatS_ok v_aQ r15 h16) (.cons (laws_toRatS_ok v_aPlaces r17 h18) (.cons (impl_IsForm_ok r11 r13 r15 r17 r21 h22) (.cons (Sc.b _ : Sc (.b r21)) (.cons (not_t h23) (.cons (laws_toStructure_ok v_aS r11 h12) (.cons (laws_eqStructure_ok r11 r11 r24 h25) (.cons (Sc.b _ : Sc (.b r24)) (.cons (not_t h26) (.cons (laws_toIntS_ok v_aL r13 h14) (.cons (laws_eqIntS_ok r13 r13 r27 h28) (.cons (Sc.b _ : Sc (.b r27)) (.cons (not_t h29) (.cons (laws_toRatS_ok v_aQ r15 h16) (.cons (laws_eqRatS_ok r15 r15 r30 h31) (.cons (Sc.b _ : Sc (.b r30)) (.cons (not_f h32) .nil))))))))))))))))))))))))))))))))))))))
          (fun h29 =>
          .ret (runF_con0 hmix (tape := [.reg [nt, nt], .reg [nt, nt, nt], .br false, .reg [nt], .reg [nt, nt, (.call { ac := [ii, ii], r := .n .i64 r2, sc := true }, true), nt], .reg [nt, nt], .br false, .reg [nt, nt, (.call { ac := [ii, ii], r := .n .i64 r5, sc := true }, true), nt], .reg [nt, nt], .br false, .reg [nt, nt, (.call { ac := [ii, ii], r := .n .i64 r8, sc := true }, true), nt], .reg [nt, nt], .br false, .reg [nt, (.call { ac := [ii], r := .agg [.isl 4 (r11.fJoints.map eTJoint), .isl 3 (r11.fMembers.map eTMember)], sc := false }, true), nt, (.call { ac := [ii], r := .isl 1 (r13.map eI), sc := false }, true), nt, (.call { ac := [ii], r := .isl 3 (r15.map eTRat), sc := false }, true), nt, (.call { ac := [ii], r := .isl 3 (r17.map eTRat), sc := false }, true), (.call { ac := [ii, ii, ii, ii], r := .b r19, sc := true }, true), nt], .reg [nt, (.call { ac := [ii], r := .agg [.isl 4 (r11.fJoints.map eTJoint), .isl 3 (r11.fMembers.map eTMember)], sc := false }, true), nt, nt], .reg [nt, (.call { ac := [ii], r := .isl 1 (r13.map eI), sc := false }, true), nt], .reg [nt, (.call { ac := [ii], r := .isl 3 (r15.map eTRat), sc := false }, true), nt], .reg [nt, (.call { ac := [ii], r := .isl 3 (r17.map eTRat), sc := false }, true), nt], .reg [nt, nt, nt, nt, (.call { ac := [ii, ii, ii, ii], r := .b r21, sc := true }, true), nt], .reg [nt, nt, nt], .br false, .reg [nt, nt, (.call { ac := [ii], r := .agg [.isl 4 (r11.fJoints.map eTJoint), .isl 3 (r11.fMembers.map eTMember)], sc := false }, true), (.call { ac := [ii, ii], r := .b r24, sc := true }, true), nt], .br false, .reg [nt, nt, (.call { ac := [ii], r := .isl 1 (r13.map eI), sc := false }, true), (.call { ac := [ii, ii], r := .b r27, sc := true }, true), nt], .br true, .reg [nt]]) (rr := ii) (by kernel_rfl) (.cons h1 (.cons (laws_szStructure_ok v_aS 1048576 r2 h3) (.cons (Sc.n _ _ : Sc (.n .i64 r2)) (.cons h4 (.cons (laws_szRatS_ok v_aQ r2 r5 h6) (.cons (Sc.n _ _ : Sc (.n .i64 r5)) (.cons h7 (.cons (laws_szRatS_ok v_aPlaces r5 r8 h9) (.cons (Sc.n _ _ : Sc (.n .i64 r8)) (.cons h10 (.cons (laws_toStructure_ok v_aS r11 h12) (.cons (laws_toIntS_ok v_aL r13 h14) (.cons (laws_toRatS_ok v_aQ r15 h16) (.cons (laws_toRatS_ok v_aPlaces r17 h18) (.cons (spec_IsForm_ok r11 r13 r15 r17 r19 h20) (.cons (Sc.b _ : Sc (.b r19)) (.cons (laws_toStructure_ok v_aS r11 h12) (.cons (laws_toIntS_ok v_aL r13 h14) (.cons (laws_toRatS_ok v_aQ r15 h16) (.cons (laws_toRatS_ok v_aPlaces r17 h18) (.cons (impl_IsForm_ok r11 r13 r15 r17 r21 h22) (.cons (Sc.b _ : Sc (.b r21)) (.cons (not_t h23) (.cons (laws_toStructure_ok v_aS r11 h12) (.cons (laws_eqStructure_ok r11 r11 r24 h25) (.cons (Sc.b _ : Sc (.b r24)) (.cons (not_t h26) (.cons (laws_toIntS_ok v_aL r13 h14) (.cons (laws_eqIntS_ok r13 r13 r27 h28) (.cons (Sc.b _ : Sc (.b r27)) (.cons (not_f h29) .nil))))))))))))))))))))))))))))))))))
         (fun h26 =>
         .ret (runF_con0 hmix (tape := [.reg [nt, nt], .reg [nt, nt, nt], .br false, .reg [nt], .reg [nt, nt, (.call { ac := [ii, ii], r := .n .i64 r2, sc := true }, true), nt], .reg [nt, nt], .br false, .reg [nt, nt, (.call { ac := [ii, ii], r := .n .i64 r5, sc := true }, true), nt], .reg [nt, nt], .br false, .reg [nt, nt, (.call { ac := [ii, ii], r := .n .i64 r8, sc := true }, true), nt], .reg [nt, nt], .br false, .reg [nt, (.call { ac := [ii], r := .agg [.isl 4 (r11.fJoints.map eTJoint), .isl 3 (r11.fMembers.map eTMember)], sc := false }, true), nt, (.call { ac := [ii], r := .isl 1 (r13.map eI), sc := false }, true), nt, (.call { ac := [ii], r := .isl 3 (r15.map eTRat), sc := false }, true), nt, (.call { ac := [ii], r := .isl 3 (r17.map eTRat), sc := false }, true), (.call { ac := [ii, ii, ii, ii], r := .b r19, sc := true }, true), nt], .reg [nt, (.call { ac := [ii], r := .agg [.isl 4 (r11.fJoints.map eTJoint), .isl 3 (r11.fMembers.map eTMember)], sc := false }, true), nt, nt], .reg [nt, (.call { ac := [ii], r := .isl 1 (r13.map eI), sc := false }, true), nt], .reg [nt, (.call { ac := [ii], r := .isl 3 (r15.map eTRat), sc := false }, true), nt], .reg [nt, (.call { ac := [ii], r := .isl 3 (r17.map eTRat), sc := false }, true), nt], .reg [nt, nt, nt, nt, (.call { ac := [ii, ii, ii, ii], r := .b r21, sc := true }, true), nt], .reg [nt, nt, nt], .br false, .reg [nt, nt, (.call { ac := [ii], r := .agg [.isl 4 (r11.fJoints.map eTJoint), .isl 3 (r11.fMembers.map eTMember)], sc := false }, true), (.call { ac := [ii, ii], r := .b r24, sc := true }, true), nt], .br true, .reg [nt]]) (rr := ii) (by kernel_rfl) (.cons h1 (.cons (laws_szStructure_ok v_aS 1048576 r2 h3) (.cons (Sc.n _ _ : Sc (.n .i64 r2)) (.cons h4 (.cons (laws_szRatS_ok v_aQ r2 r5 h6) (.cons (Sc.n _ _ : Sc (.n .i64 r5)) (.cons h7 (.cons (laws_szRatS_ok v_aPlaces r5 r8 h9) (.cons (Sc.n _ _ : Sc (.n .i64 r8)) (.cons h10 (.cons (laws_toStructure_ok v_aS r11 h12) (.cons (laws_toIntS_ok v_aL r13 h14) (.cons (laws_toRatS_ok v_aQ r15 h16) (.cons (laws_toRatS_ok v_aPlaces r17 h18) (.cons (spec_IsForm_ok r11 r13 r15 r17 r19 h20) (.cons (Sc.b _ : Sc (.b r19)) (.cons (laws_toStructure_ok v_aS r11 h12) (.cons (laws_toIntS_ok v_aL r13 h14) (.cons (laws_toRatS_ok v_aQ r15 h16) (.cons (laws_toRatS_ok v_aPlaces r17 h18) (.cons (impl_IsForm_ok r11 r13 r15 r17 r21 h22) (.cons (Sc.b _ : Sc (.b r21)) (.cons (not_t h23) (.cons (laws_toStructure_ok v_aS r11 h12) (.cons (laws_eqStructure_ok r11 r11 r24 h25) (.cons (Sc.b _ : Sc (.b r24)) (.cons (not_f h26) .nil))))))))))))))))))))))))))))))
        (fun h23 =>
        .ret (runF_con0 hmix (tape := [.reg [nt, nt], .reg [nt, nt, nt], .br false, .reg [nt], .reg [nt, nt, (.call { ac := [ii, ii], r := .n .i64 r2, sc := true }, true), nt], .reg [nt, nt], .br false, .reg [nt, nt, (.call { ac := [ii, ii], r := .n .i64 r5, sc := true }, true), nt], .reg [nt, nt], .br false, .reg [nt, nt, (.call { ac := [ii, ii], r := .n .i64 r8, sc := true }, true), nt], .reg [nt, nt], .br false, .reg [nt, (.call { ac := [ii], r := .agg [.isl 4 (r11.fJoints.map eTJoint), .isl 3 (r11.fMembers.map eTMember)], sc := false }, true), nt, (.call { ac := [ii], r := .isl 1 (r13.map eI), sc := false }, true), nt, (.call { ac := [ii], r := .isl 3 (r15.map eTRat), sc := false }, true), nt, (.call { ac := [ii], r := .isl 3 (r17.map eTRat), sc := false }, true), (.call { ac := [ii, ii, ii, ii], r := .b r19, sc := true }, true), nt], .reg [nt, (.call { ac := [ii], r := .agg [.isl 4 (r11.fJoints.map eTJoint), .isl 3 (r11.fMembers.map eTMember)], sc := false }, true), nt, nt], .reg [nt, (.call { ac := [ii], r := .isl 1 (r13.map eI), sc := false }, true), nt], .reg [nt, (.call { ac := [ii], r := .isl 3 (r15.map eTRat), sc := false }, true), nt], .reg [nt, (.call { ac := [ii], r := .isl 3 (r17.map eTRat), sc := false }, true), nt], .reg [nt, nt, nt, nt, (.call { ac := [ii, ii, ii, ii], r := .b r21, sc := true }, true), nt], .reg [nt, nt, nt], .br true, .reg [nt]]) (rr := ii) (by kernel_rfl) (.cons h1 (.cons (laws_szStructure_ok v_aS 1048576 r2 h3) (.cons (Sc.n _ _ : Sc (.n .i64 r2)) (.cons h4 (.cons (laws_szRatS_ok v_aQ r2 r5 h6) (.cons (Sc.n _ _ : Sc (.n .i64 r5)) (.cons h7 (.cons (laws_szRatS_ok v_aPlaces r5 r8 h9) (.cons (Sc.n _ _ : Sc (.n .i64 r8)) (.cons h10 (.cons (laws_toStructure_ok v_aS r11 h12) (.cons (laws_toIntS_ok v_aL r13 h14) (.cons (laws_toRatS_ok v_aQ r15 h16) (.cons (laws_toRatS_ok v_aPlaces r17 h18) (.cons (spec_IsForm_ok r11 r13 r15 r17 r19 h20) (.cons (Sc.b _ : Sc (.b r19)) (.cons (laws_toStructure_ok v_aS r11 h12) (.cons (laws_toIntS_ok v_aL r13 h14) (.cons (laws_toRatS_ok v_aQ r15 h16) (.cons (laws_toRatS_ok v_aPlaces r17 h18) (.cons (impl_IsForm_ok r11 r13 r15 r17 r21 h22) (.cons (Sc.b _ : Sc (.b r21)) (.cons (not_f h23) .nil)))))))))))))))))))))))))))))

end Go.Proofs.YtncfpfgbpjbhfabGreat
