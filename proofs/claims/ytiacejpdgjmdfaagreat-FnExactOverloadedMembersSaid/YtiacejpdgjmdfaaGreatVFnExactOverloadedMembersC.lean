/- Plain functions for the program's functions, and that calls come to them: printed by a program. No condition. -/
import Derived.Test.YtiacejpdgjmdfaaGreatVFnExactOverloadedMembersB
namespace Go.Proofs.YtiacejpdgjmdfaaGreat
set_option linter.unusedVariables false
set_option linter.unusedSimpArgs false
open Go Go.VL

def laws_markMemberS_o_L1_head  (v_k : Int) (v_i : Int) (row0 : (List TMember)) : S := mkS [(0, .osl 0 0 0 row0.length), (1, .n .i64 v_k), (5, .n .i64 v_i)] [[Ob.mk 3 (row0.map eTMember) .live]]

def laws_markMemberS_o_L1_ex : (Int × (List TMember)) → Exit
  | _ => .exit 0

def laws_markMemberS_o_L1_out  : (Int × (List TMember)) → S
  | a => mkS [(1, .n .i64 a.1)] [[Ob.mk 3 (a.2.map eTMember) .live]]

abbrev laws_markMemberS_o_L1_V := VEx PP 34 1 (nodeAt (bodyOf PP 33) [1, 0, 1, 0, 0])

def laws_markMemberS_o_L1_body  (v_k : Int) (v_i : Int) (row0 : (List TMember)) : Option ((Int × Int × (List TMember)) ⊕ (Int × (List TMember))) :=
  if (decide (v_i < ((row0.length : Nat) : Int))) = true then
    if 0 ≤ v_i ∧ v_i < (row0.length : Nat) then
    row0[(0 + v_i.toNat)]? >>= fun x3 =>
    (row0.set (0 + v_i.toNat) (⟨v_k, x3.fB, x3.fKind⟩ : TMember))[(0 + v_i.toNat)]? >>= fun x5 =>
    ((row0.set (0 + v_i.toNat) (⟨v_k, x3.fB, x3.fKind⟩ : TMember)).set (0 + v_i.toNat) (⟨x5.fA, w64 (v_k + (1 : Int)), x5.fKind⟩ : TMember))[(0 + v_i.toNat)]? >>= fun x7 =>
    some (.inl (w64 ((w64 ((w64 (v_k + (1 : Int))) + (1 : Int))) + (1 : Int)), w64 (v_i + (1 : Int)), ((row0.set (0 + v_i.toNat) (⟨v_k, x3.fB, x3.fKind⟩ : TMember)).set (0 + v_i.toNat) (⟨x5.fA, w64 (v_k + (1 : Int)), x5.fKind⟩ : TMember)).set (0 + v_i.toNat) (⟨x7.fA, x7.fB, w64 ((w64 (v_k + (1 : Int))) + (1 : Int))⟩ : TMember)))
    else none
  else
    some (.inr (v_k, row0))

def laws_markMemberS_o_L1  (v_k : Int) (v_i : Int) (row0 : (List TMember)) : Option (Int × (List TMember)) := iter (fun w : Int × Int × (List TMember) => laws_markMemberS_o_L1_body  w.1 w.2.1 w.2.2) (v_k, v_i, row0)

theorem laws_markMemberS_o_L1_body_ok  (v_k : Int) (v_i : Int) (row0 : (List TMember)) : Wp (laws_markMemberS_o_L1_body  v_k v_i row0) (Sum.elim
    (fun w => laws_markMemberS_o_L1_V .normal (laws_markMemberS_o_L1_head  v_k v_i row0) (laws_markMemberS_o_L1_head  w.1 w.2.1 w.2.2))
    (fun r => laws_markMemberS_o_L1_V (laws_markMemberS_o_L1_ex r) (laws_markMemberS_o_L1_head  v_k v_i row0) (laws_markMemberS_o_L1_out  r))) := by
  unfold laws_markMemberS_o_L1_body
  exact (let t1 : List TE := [.reg [nt, nt, nt, nt]];
    .ite (fun h1 =>
    .grd fun h2 =>
    .bnd fun x3 h4 =>
    .bnd fun x5 h6 =>
    .bnd fun x7 h8 =>
    .ret ((okC_sound hmix (tape := t1 ++ ([.br true, .reg [nt, nt, nt, nt, (.el (eTMember x3), true), (.el (eTMember x3), true)], .reg [nt, nt, nt], .reg [nt, nt, nt, nt, (.el (eTMember x5), true), (.el (eTMember x5), true)], .reg [nt, nt, nt], .reg [nt, nt, nt, nt, (.el (eTMember x7), true), (.el (eTMember x7), true)], .reg [nt, nt, nt], .reg [nt, nt, nt], .rst [0] [.as [Ob.mk 3 ((((row0.set (0 + v_i.toNat) (⟨v_k, x3.fB, x3.fKind⟩ : TMember)).set (0 + v_i.toNat) (⟨x5.fA, w64 (v_k + (1 : Int)), x5.fKind⟩ : TMember)).set (0 + v_i.toNat) (⟨x7.fA, x7.fB, w64 ((w64 (v_k + (1 : Int))) + (1 : Int))⟩ : TMember)).map eTMember) .live]] [(0, .c1 (.c0 (.len ((((row0.set (0 + v_i.toNat) (⟨v_k, x3.fB, x3.fKind⟩ : TMember)).set (0 + v_i.toNat) (⟨x5.fA, w64 (v_k + (1 : Int)), x5.fKind⟩ : TMember)).set (0 + v_i.toNat) (⟨x7.fA, x7.fB, w64 ((w64 (v_k + (1 : Int))) + (1 : Int))⟩ : TMember)).length)))), (1, ii), (5, ii)]] : List TE)) (nr := 1) (by kernel_rfl) (.c h1 (.c ((h2).1) (.c ((h2).2) (.c (map_get h4 : (row0.map eTMember)[(0 + v_i.toNat)]? = some (eTMember x3)) (.c (map_get h4 : (row0.map eTMember)[(0 + v_i.toNat)]? = some (eTMember x3)) (.c ((h2).1) (.c ((h2).2) (.c (get_prf (set_prf2 (show (row0.map eTMember) = (row0.map eTMember) from rfl) (0 + v_i.toNat) (⟨v_k, x3.fB, x3.fKind⟩ : TMember) (rfl : (setCells (eTMember x3) 0 [.n .i64 v_k]) = eTMember (⟨v_k, x3.fB, x3.fKind⟩ : TMember))) h6) (.c (get_prf (set_prf2 (show (row0.map eTMember) = (row0.map eTMember) from rfl) (0 + v_i.toNat) (⟨v_k, x3.fB, x3.fKind⟩ : TMember) (rfl : (setCells (eTMember x3) 0 [.n .i64 v_k]) = eTMember (⟨v_k, x3.fB, x3.fKind⟩ : TMember))) h6) (.c ((h2).1) (.c ((h2).2) (.c (get_prf (set_prf2 (set_prf2 (show (row0.map eTMember) = (row0.map eTMember) from rfl) (0 + v_i.toNat) (⟨v_k, x3.fB, x3.fKind⟩ : TMember) (rfl : (setCells (eTMember x3) 0 [.n .i64 v_k]) = eTMember (⟨v_k, x3.fB, x3.fKind⟩ : TMember))) (0 + v_i.toNat) (⟨x5.fA, w64 (v_k + (1 : Int)), x5.fKind⟩ : TMember) (rfl : (setCells (eTMember x5) 1 [.n .i64 (w64 (v_k + (1 : Int)))]) = eTMember (⟨x5.fA, w64 (v_k + (1 : Int)), x5.fKind⟩ : TMember))) h8) (.c (get_prf (set_prf2 (set_prf2 (show (row0.map eTMember) = (row0.map eTMember) from rfl) (0 + v_i.toNat) (⟨v_k, x3.fB, x3.fKind⟩ : TMember) (rfl : (setCells (eTMember x3) 0 [.n .i64 v_k]) = eTMember (⟨v_k, x3.fB, x3.fKind⟩ : TMember))) (0 + v_i.toNat) (⟨x5.fA, w64 (v_k + (1 : Int)), x5.fKind⟩ : TMember) (rfl : (setCells (eTMember x5) 1 [.n .i64 (w64 (v_k + (1 : Int)))]) = eTMember (⟨x5.fA, w64 (v_k + (1 : Int)), x5.fKind⟩ : TMember))) h8) (.c (row_prf (set_prf2 (set_prf2 (set_prf2 (show (row0.map eTMember) = (row0.map eTMember) from rfl) (0 + v_i.toNat) (⟨v_k, x3.fB, x3.fKind⟩ : TMember) (rfl : (setCells (eTMember x3) 0 [.n .i64 v_k]) = eTMember (⟨v_k, x3.fB, x3.fKind⟩ : TMember))) (0 + v_i.toNat) (⟨x5.fA, w64 (v_k + (1 : Int)), x5.fKind⟩ : TMember) (rfl : (setCells (eTMember x5) 1 [.n .i64 (w64 (v_k + (1 : Int)))]) = eTMember (⟨x5.fA, w64 (v_k + (1 : Int)), x5.fKind⟩ : TMember))) (0 + v_i.toNat) (⟨x7.fA, x7.fB, w64 ((w64 (v_k + (1 : Int))) + (1 : Int))⟩ : TMember) (rfl : (setCells (eTMember x7) 2 [.n .i64 (w64 ((w64 (v_k + (1 : Int))) + (1 : Int)))]) = eTMember (⟨x7.fA, x7.fB, w64 ((w64 (v_k + (1 : Int))) + (1 : Int))⟩ : TMember))) : [Ob.mk 3 ((((row0.map eTMember).set (0 + v_i.toNat) (setCells (eTMember x3) 0 [.n .i64 v_k])).set (0 + v_i.toNat) (setCells (eTMember x5) 1 [.n .i64 (w64 (v_k + (1 : Int)))])).set (0 + v_i.toNat) (setCells (eTMember x7) 2 [.n .i64 (w64 ((w64 (v_k + (1 : Int))) + (1 : Int)))])) .live] = [Ob.mk 3 ((((row0.set (0 + v_i.toNat) (⟨v_k, x3.fB, x3.fKind⟩ : TMember)).set (0 + v_i.toNat) (⟨x5.fA, w64 (v_k + (1 : Int)), x5.fKind⟩ : TMember)).set (0 + v_i.toNat) (⟨x7.fA, x7.fB, w64 ((w64 (v_k + (1 : Int))) + (1 : Int))⟩ : TMember)).map eTMember) .live]) (.c (pure_row eTMember_pure (((row0.set (0 + v_i.toNat) (⟨v_k, x3.fB, x3.fKind⟩ : TMember)).set (0 + v_i.toNat) (⟨x5.fA, w64 (v_k + (1 : Int)), x5.fKind⟩ : TMember)).set (0 + v_i.toNat) (⟨x7.fA, x7.fB, w64 ((w64 (v_k + (1 : Int))) + (1 : Int))⟩ : TMember)) : PureRow [Ob.mk 3 ((((row0.set (0 + v_i.toNat) (⟨v_k, x3.fB, x3.fKind⟩ : TMember)).set (0 + v_i.toNat) (⟨x5.fA, w64 (v_k + (1 : Int)), x5.fKind⟩ : TMember)).set (0 + v_i.toNat) (⟨x7.fA, x7.fB, w64 ((w64 (v_k + (1 : Int))) + (1 : Int))⟩ : TMember)).map eTMember) .live]) (.c (len_set (len_set (len_set (show row0.length = row0.length from rfl) (0 + v_i.toNat) (⟨v_k, x3.fB, x3.fKind⟩ : TMember)) (0 + v_i.toNat) (⟨x5.fA, w64 (v_k + (1 : Int)), x5.fKind⟩ : TMember)) (0 + v_i.toNat) (⟨x7.fA, x7.fB, w64 ((w64 (v_k + (1 : Int))) + (1 : Int))⟩ : TMember)) .nil)))))))))))))))) (mkS_free _ _) : laws_markMemberS_o_L1_V .normal (laws_markMemberS_o_L1_head  v_k v_i row0) (laws_markMemberS_o_L1_head  (w64 ((w64 ((w64 (v_k + (1 : Int))) + (1 : Int))) + (1 : Int))) (w64 (v_i + (1 : Int))) (((row0.set (0 + v_i.toNat) (⟨v_k, x3.fB, x3.fKind⟩ : TMember)).set (0 + v_i.toNat) (⟨x5.fA, w64 (v_k + (1 : Int)), x5.fKind⟩ : TMember)).set (0 + v_i.toNat) (⟨x7.fA, x7.fB, w64 ((w64 (v_k + (1 : Int))) + (1 : Int))⟩ : TMember))))))
    (fun h1 =>
    .ret ((okC_sound hmix (tape := t1 ++ ([.br false, .rst [0] [.pure] [(1, ii)]] : List TE)) (nr := 1) (by kernel_rfl) (.c h1 (.c (pure_row eTMember_pure row0 : PureRow [Ob.mk 3 (row0.map eTMember) .live]) .nil)) (mkS_free _ _) : laws_markMemberS_o_L1_V (.exit 0) (laws_markMemberS_o_L1_head  v_k v_i row0) (laws_markMemberS_o_L1_out  (v_k, row0))))))

theorem laws_markMemberS_o_L1_ok  (v_k : Int) (v_i : Int) (row0 : (List TMember)) : ∀ r, laws_markMemberS_o_L1  v_k v_i row0 = some r → VLoop PP 34 1 (nodeAt (bodyOf PP 33) [1, 0, 1, 0, 0]) (laws_markMemberS_o_L1_ex r) (laws_markMemberS_o_L1_head  v_k v_i row0) (laws_markMemberS_o_L1_out  r) := fun r h =>
  iter_ok (head := fun w : Int × Int × (List TMember) => laws_markMemberS_o_L1_head  w.1 w.2.1 w.2.2) (ex := laws_markMemberS_o_L1_ex) (out := laws_markMemberS_o_L1_out ) (by intro r; unfold laws_markMemberS_o_L1_ex; split <;> simp) (fun w => laws_markMemberS_o_L1_body_ok  w.1 w.2.1 w.2.2) (v_k, v_i, row0) r h

def laws_markMemberS_o (v_k : Int) (rw0 : (List TMember)) : Option (Int × (List TMember)) :=
  laws_markMemberS_o_L1 v_k 0 rw0 >>= fun r1 =>
  some (r1.1, r1.2)

theorem laws_markMemberS_o_ok (v_k : Int) (rw0 : (List TMember)) : Wp (laws_markMemberS_o v_k rw0) (fun a => Con PP 33 [.osl 0 0 0 rw0.length, .n .i64 v_k] [[Ob.mk 3 (rw0.map eTMember) .live]] (.n .i64 a.1) [[Ob.mk 3 (a.2.map eTMember) .live]]) := by
  unfold laws_markMemberS_o
  exact .bnd fun r1 h2 =>
    .ret (runF_con hmix (tape := [.reg [nt], .reg [nt], .rst [0] [.pure] [(0, ii), (1, ii), (5, ii)], .sub (.exit 0) [(1, .n .i64 r1.1)] [[Ob.mk 3 (r1.2.map eTMember) .live]], .reg [nt, nt]]) (mv := [0]) (rc := [.pure]) (rr := ii) (by kernel_rfl) (.c (pure_row eTMember_pure rw0 : PureRow [Ob.mk 3 (rw0.map eTMember) .live]) (.c ((laws_markMemberS_o_L1_ok v_k 0 rw0 r1 h2).vex) (.c (pure_row eTMember_pure r1.2 : PureRow [Ob.mk 3 (r1.2.map eTMember) .live]) .nil))))

def laws_markStructure_o (v_k : Int) (rw0 : (List TJoint)) (rw1 : (List TMember)) : Option (Int × (List TJoint) × (List TMember)) :=
  laws_markJointS_o v_k rw0 >>= fun r1 =>
  laws_markMemberS_o r1.1 rw1 >>= fun r3 =>
  some (r3.1, r1.2, r3.2)

theorem laws_markStructure_o_ok (v_k : Int) (rw0 : (List TJoint)) (rw1 : (List TMember)) : Wp (laws_markStructure_o v_k rw0 rw1) (fun a => Con PP 14 [.agg [.osl 0 0 0 rw0.length, .osl 1 0 0 rw1.length], .n .i64 v_k] [[Ob.mk 4 (rw0.map eTJoint) .live], [Ob.mk 3 (rw1.map eTMember) .live]] (.n .i64 a.1) [[Ob.mk 4 (a.2.1.map eTJoint) .live], [Ob.mk 3 (a.2.2.map eTMember) .live]]) := by
  unfold laws_markStructure_o
  exact .bnd fun r1 h2 =>
    .bnd fun r3 h4 =>
    .ret (runF_con hmix (tape := [.reg [nt, nt], .reg [nt, nt, nt, (.call { mv := [.row 0], rc := [.pure], ac := [ii, ii], r := .n .i64 r1.1, T1 := [[Ob.mk 4 (r1.2.map eTJoint) .live]], rr := ii, rrc := [.pure], rds := [0], sc := false }, true), nt], .reg [nt, nt, nt, (.call { mv := [.row 1], rc := [.pure], ac := [ii, ii], r := .n .i64 r3.1, T1 := [[Ob.mk 3 (r3.2.map eTMember) .live]], rr := ii, rrc := [.pure], rds := [1], sc := false }, true), nt], .reg [nt, nt]]) (mv := [0, 1]) (rc := [.pure, .pure]) (rr := ii) (by kernel_rfl) (.c (pure_live eTJoint_pure rw0 : PureLive [Ob.mk 4 (rw0.map eTJoint) .live]) (.c (pure_live eTJoint_pure r1.2 : PureLive [Ob.mk 4 (r1.2.map eTJoint) .live]) (.c (laws_markJointS_o_ok v_k rw0 r1 h2) (.c (pure_live eTMember_pure rw1 : PureLive [Ob.mk 3 (rw1.map eTMember) .live]) (.c (pure_live eTMember_pure r3.2 : PureLive [Ob.mk 3 (r3.2.map eTMember) .live]) (.c (laws_markMemberS_o_ok r1.1 rw1 r3 h4) (.c (pure_row eTJoint_pure r1.2 : PureRow [Ob.mk 4 (r1.2.map eTJoint) .live]) (.c (pure_row eTMember_pure r3.2 : PureRow [Ob.mk 3 (r3.2.map eTMember) .live]) .nil)))))))))

def laws_markIntS_L1_head (v_a : (List Int)) (v_k : Int)  : S := mkS [(0, .isl 1 (v_a.map eI)), (1, .n .i64 v_k), (5, .n .i64 (0 : Int))] []

def laws_markIntS_L1_ex : Unit → Exit
  | _ => .exit 0

def laws_markIntS_L1_out (v_a : (List Int)) (v_k : Int) : Unit → S
  | a => mkS [(1, .n .i64 v_k)] []

abbrev laws_markIntS_L1_V := VEx PP 19 0 (nodeAt (bodyOf PP 16) [1, 0, 1, 0, 0])

def laws_markIntS_L1_body (v_a : (List Int)) (v_k : Int)  : Option ((Unit) ⊕ (Unit)) :=
  if (decide ((0 : Int) < (len_ eI v_a))) = true then
    if 0 ≤ (0 : Int) ∧ (0 : Int) < v_a.length then
    none
    else none
  else
    some (.inr ())

def laws_markIntS_L1 (v_a : (List Int)) (v_k : Int)  : Option (Unit) := iter (fun w : Unit => laws_markIntS_L1_body v_a v_k ) ()

theorem laws_markIntS_L1_body_ok (v_a : (List Int)) (v_k : Int)  : Wp (laws_markIntS_L1_body v_a v_k ) (Sum.elim
    (fun w => laws_markIntS_L1_V .normal (laws_markIntS_L1_head v_a v_k) (laws_markIntS_L1_head v_a v_k ))
    (fun r => laws_markIntS_L1_V (laws_markIntS_L1_ex r) (laws_markIntS_L1_head v_a v_k) (laws_markIntS_L1_out v_a v_k r))) := by
  unfold laws_markIntS_L1_body
  exact .ite (fun h1 =>
    .grd fun h2 =>
    .nix)
    (fun h1 =>
    .ret ((okC_sound hmix (tape := [.reg [nt, nt, nt, nt], .br false, .rst [] [] [(1, ii)]]) (nr := 0) (by kernel_rfl) (.c h1 .nil) (mkS_free _ _) : laws_markIntS_L1_V (.exit 0) (laws_markIntS_L1_head v_a v_k) (laws_markIntS_L1_out v_a v_k ()))))

theorem laws_markIntS_L1_ok (v_a : (List Int)) (v_k : Int)  : ∀ r, laws_markIntS_L1 v_a v_k  = some r → VLoop PP 19 0 (nodeAt (bodyOf PP 16) [1, 0, 1, 0, 0]) (laws_markIntS_L1_ex r) (laws_markIntS_L1_head v_a v_k) (laws_markIntS_L1_out v_a v_k r) := fun r h =>
  iter_ok (head := fun w : Unit => laws_markIntS_L1_head v_a v_k ) (ex := laws_markIntS_L1_ex) (out := laws_markIntS_L1_out v_a v_k) (by intro r; unfold laws_markIntS_L1_ex; split <;> simp) (fun w => laws_markIntS_L1_body_ok v_a v_k ) () r h

def laws_markIntS (v_a : (List Int)) (v_k : Int) : Option Int :=
  laws_markIntS_L1 v_a v_k >>= fun r1 =>
  some v_k

theorem laws_markIntS_ok (v_a : (List Int)) (v_k : Int) : Wp (laws_markIntS v_a v_k) (fun r => Con PP 16 [.isl 1 (v_a.map eI), .n .i64 v_k] [] (.n .i64 r) []) := by
  unfold laws_markIntS
  exact .bnd fun r1 h2 =>
    .ret (runF_con0 hmix (tape := [.reg [nt], .reg [nt], .rst [] [] [(0, ii), (1, ii), (5, ii)], .sub (.exit 0) [(1, .n .i64 v_k)] [], .reg [nt, nt]]) (rr := ii) (by kernel_rfl) (.c ((laws_markIntS_L1_ok v_a v_k r1 h2).vex) .nil))

def laws_markIntS_o_L1_head (v_a_lo : Nat) (v_a_len : Nat) (v_k : Int) (v_i : Int) (row0 : (List Int)) : S := mkS [(0, .osl 0 0 v_a_lo v_a_len), (1, .n .i64 v_k), (5, .n .i64 v_i)] [[Ob.mk 1 (row0.map eI) .live]]

def laws_markIntS_o_L1_ex : (Int × (List Int)) → Exit
  | _ => .exit 0

def laws_markIntS_o_L1_out (v_a_lo : Nat) (v_a_len : Nat) : (Int × (List Int)) → S
  | a => mkS [(1, .n .i64 a.1)] [[Ob.mk 1 (a.2.map eI) .live]]

abbrev laws_markIntS_o_L1_V := VEx PP 19 1 (nodeAt (bodyOf PP 16) [1, 0, 1, 0, 0])

def laws_markIntS_o_L1_body (v_a_lo : Nat) (v_a_len : Nat) (v_k : Int) (v_i : Int) (row0 : (List Int)) : Option ((Int × Int × (List Int)) ⊕ (Int × (List Int))) :=
  if (decide (v_i < ((v_a_len : Nat) : Int))) = true then
    if 0 ≤ v_i ∧ v_i < (v_a_len : Nat) then
    if (v_a_lo + v_i.toNat) < row0.length then
    some (.inl (w64 (v_k + (1 : Int)), w64 (v_i + (1 : Int)), row0.set (v_a_lo + v_i.toNat) v_k))
    else none
    else none
  else
    some (.inr (v_k, row0))

def laws_markIntS_o_L1 (v_a_lo : Nat) (v_a_len : Nat) (v_k : Int) (v_i : Int) (row0 : (List Int)) : Option (Int × (List Int)) := iter (fun w : Int × Int × (List Int) => laws_markIntS_o_L1_body v_a_lo v_a_len w.1 w.2.1 w.2.2) (v_k, v_i, row0)

theorem laws_markIntS_o_L1_body_ok (v_a_lo : Nat) (v_a_len : Nat) (v_k : Int) (v_i : Int) (row0 : (List Int)) : Wp (laws_markIntS_o_L1_body v_a_lo v_a_len v_k v_i row0) (Sum.elim
    (fun w => laws_markIntS_o_L1_V .normal (laws_markIntS_o_L1_head v_a_lo v_a_len v_k v_i row0) (laws_markIntS_o_L1_head v_a_lo v_a_len w.1 w.2.1 w.2.2))
    (fun r => laws_markIntS_o_L1_V (laws_markIntS_o_L1_ex r) (laws_markIntS_o_L1_head v_a_lo v_a_len v_k v_i row0) (laws_markIntS_o_L1_out v_a_lo v_a_len r))) := by
  unfold laws_markIntS_o_L1_body
  exact (let t1 : List TE := [.reg [nt, nt, nt, nt]];
    .ite (fun h1 =>
    .grd fun h2 =>
    .grd fun h3 =>
    .ret ((okC_sound hmix (tape := t1 ++ ([.br true, .reg [nt, nt, nt, nt, (.bd, true)], .reg [nt, nt, nt], .reg [nt, nt, nt], .rst [0] [.as [Ob.mk 1 ((row0.set (v_a_lo + v_i.toNat) v_k).map eI) .live]] [(0, ii), (1, ii), (5, ii)]] : List TE)) (nr := 1) (by kernel_rfl) (.c h1 (.c ((h2).1) (.c ((h2).2) (.c (lt_map h3 : (v_a_lo + v_i.toNat) < (row0.map eI).length) (.c (rfl : 1 = 1) (.c (row_prf (set_prf (show (row0.map eI) = (row0.map eI) from rfl) (v_a_lo + v_i.toNat) v_k) : [Ob.mk 1 ((row0.map eI).set (v_a_lo + v_i.toNat) [.n .i64 v_k]) .live] = [Ob.mk 1 ((row0.set (v_a_lo + v_i.toNat) v_k).map eI) .live]) (.c (pure_row eI_pure (row0.set (v_a_lo + v_i.toNat) v_k) : PureRow [Ob.mk 1 ((row0.set (v_a_lo + v_i.toNat) v_k).map eI) .live]) .nil))))))) (mkS_free _ _) : laws_markIntS_o_L1_V .normal (laws_markIntS_o_L1_head v_a_lo v_a_len v_k v_i row0) (laws_markIntS_o_L1_head v_a_lo v_a_len (w64 (v_k + (1 : Int))) (w64 (v_i + (1 : Int))) (row0.set (v_a_lo + v_i.toNat) v_k)))))
    (fun h1 =>
    .ret ((okC_sound hmix (tape := t1 ++ ([.br false, .rst [0] [.pure] [(1, ii)]] : List TE)) (nr := 1) (by kernel_rfl) (.c h1 (.c (pure_row eI_pure row0 : PureRow [Ob.mk 1 (row0.map eI) .live]) .nil)) (mkS_free _ _) : laws_markIntS_o_L1_V (.exit 0) (laws_markIntS_o_L1_head v_a_lo v_a_len v_k v_i row0) (laws_markIntS_o_L1_out v_a_lo v_a_len (v_k, row0))))))

theorem laws_markIntS_o_L1_ok (v_a_lo : Nat) (v_a_len : Nat) (v_k : Int) (v_i : Int) (row0 : (List Int)) : ∀ r, laws_markIntS_o_L1 v_a_lo v_a_len v_k v_i row0 = some r → VLoop PP 19 1 (nodeAt (bodyOf PP 16) [1, 0, 1, 0, 0]) (laws_markIntS_o_L1_ex r) (laws_markIntS_o_L1_head v_a_lo v_a_len v_k v_i row0) (laws_markIntS_o_L1_out v_a_lo v_a_len r) := fun r h =>
  iter_ok (head := fun w : Int × Int × (List Int) => laws_markIntS_o_L1_head v_a_lo v_a_len w.1 w.2.1 w.2.2) (ex := laws_markIntS_o_L1_ex) (out := laws_markIntS_o_L1_out v_a_lo v_a_len) (by intro r; unfold laws_markIntS_o_L1_ex; split <;> simp) (fun w => laws_markIntS_o_L1_body_ok v_a_lo v_a_len w.1 w.2.1 w.2.2) (v_k, v_i, row0) r h

def laws_markIntS_o (v_k : Int) (v_a_lo : Nat) (v_a_len : Nat) (rw0 : (List Int)) : Option (Int × (List Int)) :=
  laws_markIntS_o_L1 v_a_lo v_a_len v_k 0 rw0 >>= fun r1 =>
  some (r1.1, r1.2)

theorem laws_markIntS_o_ok (v_k : Int) (v_a_lo : Nat) (v_a_len : Nat) (rw0 : (List Int)) : Wp (laws_markIntS_o v_k v_a_lo v_a_len rw0) (fun a => Con PP 16 [.osl 0 0 v_a_lo v_a_len, .n .i64 v_k] [[Ob.mk 1 (rw0.map eI) .live]] (.n .i64 a.1) [[Ob.mk 1 (a.2.map eI) .live]]) := by
  unfold laws_markIntS_o
  exact .bnd fun r1 h2 =>
    .ret (runF_con hmix (tape := [.reg [nt], .reg [nt], .rst [0] [.pure] [(0, ii), (1, ii), (5, ii)], .sub (.exit 0) [(1, .n .i64 r1.1)] [[Ob.mk 1 (r1.2.map eI) .live]], .reg [nt, nt]]) (mv := [0]) (rc := [.pure]) (rr := ii) (by kernel_rfl) (.c (pure_row eI_pure rw0 : PureRow [Ob.mk 1 (rw0.map eI) .live]) (.c ((laws_markIntS_o_L1_ok v_a_lo v_a_len v_k 0 rw0 r1 h2).vex) (.c (pure_row eI_pure r1.2 : PureRow [Ob.mk 1 (r1.2.map eI) .live]) .nil))))

def laws_markRatS_o_L1_head  (v_k : Int) (v_i : Int) (row0_0 : (List OTRat)) (pool0 : (List (List Int))) : S := mkS [(0, .osl 0 0 0 row0_0.length), (1, .n .i64 v_k), (5, .n .i64 v_i)] [(Ob.mk 3 (row0_0.map (eOTRat 0 1)) .live :: (pool0.map (poolO .live 1 eI)))]

def laws_markRatS_o_L1_ex : (Int × (List OTRat) × (List (List Int))) → Exit
  | _ => .exit 0

def laws_markRatS_o_L1_out  : (Int × (List OTRat) × (List (List Int))) → S
  | a => mkS [(1, .n .i64 a.1)] [(Ob.mk 3 (a.2.1.map (eOTRat 0 1)) .live :: (a.2.2.map (poolO .live 1 eI)))]

abbrev laws_markRatS_o_L1_V := VEx PP 38 1 (nodeAt (bodyOf PP 15) [1, 0, 1, 0, 0])

def laws_markRatS_o_L1_body  (v_k : Int) (v_i : Int) (row0_0 : (List OTRat)) (pool0 : (List (List Int))) : Option ((Int × Int × (List OTRat) × (List (List Int))) ⊕ (Int × (List OTRat) × (List (List Int)))) :=
  if (decide (v_i < ((row0_0.length : Nat) : Int))) = true then
    if 0 ≤ v_i ∧ v_i < (row0_0.length : Nat) then
    row0_0[(0 + v_i.toNat)]? >>= fun x3 =>
    (row0_0.set (0 + v_i.toNat) (⟨(⟨((v_k.tmod (3 : Int)) == (0 : Int)), x3.fNum.fMag⟩ : OTBigInt), x3.fDen⟩ : OTRat))[(0 + v_i.toNat)]? >>= fun x5 =>
    x5.fNum.fMag.elim
    (laws_markIntS ([] : List Int) (w64 (v_k + (1 : Int))) >>= fun r9 =>
      x5.fDen.elim
      (laws_markIntS ([] : List Int) r9 >>= fun r13 =>
        some (.inl (r13, w64 (v_i + (1 : Int)), row0_0.set (0 + v_i.toNat) (⟨(⟨((v_k.tmod (3 : Int)) == (0 : Int)), x3.fNum.fMag⟩ : OTBigInt), x3.fDen⟩ : OTRat), pool0)))
      fun y12 =>
      pool0[y12.1]? >>= fun l13 =>
      laws_markIntS_o r9 0 y12.2 l13 >>= fun r15 =>
      some (.inl (r15.1, w64 (v_i + (1 : Int)), row0_0.set (0 + v_i.toNat) (⟨(⟨((v_k.tmod (3 : Int)) == (0 : Int)), x3.fNum.fMag⟩ : OTBigInt), x3.fDen⟩ : OTRat), pool0.set y12.1 r15.2)))
    fun y8 =>
    pool0[y8.1]? >>= fun l9 =>
    laws_markIntS_o (w64 (v_k + (1 : Int))) 0 y8.2 l9 >>= fun r11 =>
    x5.fDen.elim
    (laws_markIntS ([] : List Int) r11.1 >>= fun r15 =>
      some (.inl (r15, w64 (v_i + (1 : Int)), row0_0.set (0 + v_i.toNat) (⟨(⟨((v_k.tmod (3 : Int)) == (0 : Int)), x3.fNum.fMag⟩ : OTBigInt), x3.fDen⟩ : OTRat), pool0.set y8.1 r11.2)))
    fun y14 =>
    (pool0.set y8.1 r11.2)[y14.1]? >>= fun l15 =>
    laws_markIntS_o r11.1 0 y14.2 l15 >>= fun r17 =>
    some (.inl (r17.1, w64 (v_i + (1 : Int)), row0_0.set (0 + v_i.toNat) (⟨(⟨((v_k.tmod (3 : Int)) == (0 : Int)), x3.fNum.fMag⟩ : OTBigInt), x3.fDen⟩ : OTRat), (pool0.set y8.1 r11.2).set y14.1 r17.2))
    else none
  else
    some (.inr (v_k, row0_0, pool0))

def laws_markRatS_o_L1  (v_k : Int) (v_i : Int) (row0_0 : (List OTRat)) (pool0 : (List (List Int))) : Option (Int × (List OTRat) × (List (List Int))) := iter (fun w : Int × Int × (List OTRat) × (List (List Int)) => laws_markRatS_o_L1_body  w.1 w.2.1 w.2.2.1 w.2.2.2) (v_k, v_i, row0_0, pool0)

set_option maxHeartbeats 4000000 in
theorem laws_markRatS_o_L1_body_ok  (v_k : Int) (v_i : Int) (row0_0 : (List OTRat)) (pool0 : (List (List Int))) : Wp (laws_markRatS_o_L1_body  v_k v_i row0_0 pool0) (Sum.elim
    (fun w => laws_markRatS_o_L1_V .normal (laws_markRatS_o_L1_head  v_k v_i row0_0 pool0) (laws_markRatS_o_L1_head  w.1 w.2.1 w.2.2.1 w.2.2.2))
    (fun r => laws_markRatS_o_L1_V (laws_markRatS_o_L1_ex r) (laws_markRatS_o_L1_head  v_k v_i row0_0 pool0) (laws_markRatS_o_L1_out  r))) := by
  unfold laws_markRatS_o_L1_body
  exact (let t1 : List TE := [.reg [nt, nt, nt, nt]];
    .ite (fun h1 =>
    .grd fun h2 =>
    .bnd fun x3 h4 =>
    .bnd fun x5 h6 =>
    (let t2 : List TE := t1 ++ ([.br true, .reg [nt, nt, nt, nt, nt, nt, (.el ((eOTRat 0 1) x3), true), (.el ((eOTRat 0 1) x3), true), (.el ((eOTRat 0 1) x3), true)], .reg [nt, nt, nt]] : List TE);
    have o3 := ((.c h1 (.c (by decide : (3 : Int) ≠ 0) (.c ((h2).1) (.c ((h2).2) (.c (map_get h4 : (row0_0.map (eOTRat 0 1))[(0 + v_i.toNat)]? = some ((eOTRat 0 1) x3)) (.c (map_get h4 : (row0_0.map (eOTRat 0 1))[(0 + v_i.toNat)]? = some ((eOTRat 0 1) x3)) (.c (map_get h4 : (row0_0.map (eOTRat 0 1))[(0 + v_i.toNat)]? = some ((eOTRat 0 1) x3)) (.c ((h2).1) (.c ((h2).2) (.c (get_prf (set_prf2 (show (row0_0.map (eOTRat 0 1)) = (row0_0.map (eOTRat 0 1)) from rfl) (0 + v_i.toNat) (⟨(⟨((v_k.tmod (3 : Int)) == (0 : Int)), x3.fNum.fMag⟩ : OTBigInt), x3.fDen⟩ : OTRat) (rfl : (setCells ((eOTRat 0 1) x3) 0 [.b ((v_k.tmod (3 : Int)) == (0 : Int))]) = (eOTRat 0 1) (⟨(⟨((v_k.tmod (3 : Int)) == (0 : Int)), x3.fNum.fMag⟩ : OTBigInt), x3.fDen⟩ : OTRat))) h6) (.c (get_prf (set_prf2 (show (row0_0.map (eOTRat 0 1)) = (row0_0.map (eOTRat 0 1)) from rfl) (0 + v_i.toNat) (⟨(⟨((v_k.tmod (3 : Int)) == (0 : Int)), x3.fNum.fMag⟩ : OTBigInt), x3.fDen⟩ : OTRat) (rfl : (setCells ((eOTRat 0 1) x3) 0 [.b ((v_k.tmod (3 : Int)) == (0 : Int))]) = (eOTRat 0 1) (⟨(⟨((v_k.tmod (3 : Int)) == (0 : Int)), x3.fNum.fMag⟩ : OTBigInt), x3.fDen⟩ : OTRat))) h6) (.c (get_prf (set_prf2 (show (row0_0.map (eOTRat 0 1)) = (row0_0.map (eOTRat 0 1)) from rfl) (0 + v_i.toNat) (⟨(⟨((v_k.tmod (3 : Int)) == (0 : Int)), x3.fNum.fMag⟩ : OTBigInt), x3.fDen⟩ : OTRat) (rfl : (setCells ((eOTRat 0 1) x3) 0 [.b ((v_k.tmod (3 : Int)) == (0 : Int))]) = (eOTRat 0 1) (⟨(⟨((v_k.tmod (3 : Int)) == (0 : Int)), x3.fNum.fMag⟩ : OTBigInt), x3.fDen⟩ : OTRat))) h6) .nil)))))))))))) : AllP _);
    .opt (fun h7 =>
    .bnd fun r9 h10 =>
    (let t4 : List TE := t2 ++ ([.reg [nt, nt, nt, (.el ((eOTRat 0 1) x5), true), (.el ((eOTRat 0 1) x5), true), (.el ((eOTRat 0 1) x5), true), nt, (.re 27 (.isl 1 []) (.call { ac := [ii, ii], r := .n .i64 r9, sc := true }), true), nt]] : List TE);
    have o5 := o3.app (.c (aH_none (rp := 0) (c := 1) (sz := 1) h7) (.c (laws_markIntS_ok ([] : List Int) (w64 (v_k + (1 : Int))) r9 h10) (.c (Sc.n _ _ : Sc (.n .i64 r9)) (.c ((h2).1) (.c ((h2).2) (.c (get_prf (set_prf2 (show (row0_0.map (eOTRat 0 1)) = (row0_0.map (eOTRat 0 1)) from rfl) (0 + v_i.toNat) (⟨(⟨((v_k.tmod (3 : Int)) == (0 : Int)), x3.fNum.fMag⟩ : OTBigInt), x3.fDen⟩ : OTRat) (rfl : (setCells ((eOTRat 0 1) x3) 0 [.b ((v_k.tmod (3 : Int)) == (0 : Int))]) = (eOTRat 0 1) (⟨(⟨((v_k.tmod (3 : Int)) == (0 : Int)), x3.fNum.fMag⟩ : OTBigInt), x3.fDen⟩ : OTRat))) h6) (.c (get_prf (set_prf2 (show (row0_0.map (eOTRat 0 1)) = (row0_0.map (eOTRat 0 1)) from rfl) (0 + v_i.toNat) (⟨(⟨((v_k.tmod (3 : Int)) == (0 : Int)), x3.fNum.fMag⟩ : OTBigInt), x3.fDen⟩ : OTRat) (rfl : (setCells ((eOTRat 0 1) x3) 0 [.b ((v_k.tmod (3 : Int)) == (0 : Int))]) = (eOTRat 0 1) (⟨(⟨((v_k.tmod (3 : Int)) == (0 : Int)), x3.fNum.fMag⟩ : OTBigInt), x3.fDen⟩ : OTRat))) h6) .nil)))))));
    .opt (fun h11 =>
    .bnd fun r13 h14 =>
    .ret ((okC_sound hmix (tape := t4 ++ ([.reg [nt, nt, nt, (.el ((eOTRat 0 1) x5), true), (.el ((eOTRat 0 1) x5), true), nt, (.re 34 (.isl 1 []) (.call { ac := [ii, ii], r := .n .i64 r13, sc := true }), true), nt], .reg [nt, nt, nt], .rst [0] [.rn (Ob.mk 3 ((row0_0.set (0 + v_i.toNat) (⟨(⟨((v_k.tmod (3 : Int)) == (0 : Int)), x3.fNum.fMag⟩ : OTBigInt), x3.fDen⟩ : OTRat)).map (eOTRat 0 1)) .live :: (pool0.map (poolO .live 1 eI)))] [(0, .c1 (.c0 (.len ((row0_0.set (0 + v_i.toNat) (⟨(⟨((v_k.tmod (3 : Int)) == (0 : Int)), x3.fNum.fMag⟩ : OTBigInt), x3.fDen⟩ : OTRat)).length)))), (1, ii), (5, ii)]] : List TE)) (nr := 1) (by kernel_rfl) (o5.app (.c (aH_none (rp := 0) (c := 1) (sz := 1) h11) (.c (laws_markIntS_ok ([] : List Int) r9 r13 h14) (.c (Sc.n _ _ : Sc (.n .i64 r13)) (.c ((rn_cons (rn_es (tgt := (findIx [0])) (f' := (eOTRat 0 1)) (set_prf2 (show (row0_0.map (eOTRat 0 1)) = (row0_0.map (eOTRat 0 1)) from rfl) (0 + v_i.toNat) (⟨(⟨((v_k.tmod (3 : Int)) == (0 : Int)), x3.fNum.fMag⟩ : OTBigInt), x3.fDen⟩ : OTRat) (rfl : (setCells ((eOTRat 0 1) x3) 0 [.b ((v_k.tmod (3 : Int)) == (0 : Int))]) = (eOTRat 0 1) (⟨(⟨((v_k.tmod (3 : Int)) == (0 : Int)), x3.fNum.fMag⟩ : OTBigInt), x3.fDen⟩ : OTRat))) (fun x => (eOTRat_rn (rfl : (findIx [0]) 0 = some 0)) x)) (rn_pool (tgt := (findIx [0])) (show (pool0.map (poolO .live 1 eI)) = (pool0.map (poolO .live 1 eI)) from rfl) (fun x => (nr_rn eI_nr) x))) : (Ob.mk 3 ((row0_0.set (0 + v_i.toNat) (⟨(⟨((v_k.tmod (3 : Int)) == (0 : Int)), x3.fNum.fMag⟩ : OTBigInt), x3.fDen⟩ : OTRat)).map (eOTRat 0 1)) .live :: (pool0.map (poolO .live 1 eI))) = List.map (rnO (findIx [0])) (Ob.mk 3 ((row0_0.map (eOTRat 0 1)).set (0 + v_i.toNat) (setCells ((eOTRat 0 1) x3) 0 [.b ((v_k.tmod (3 : Int)) == (0 : Int))])) .live :: (pool0.map (poolO .live 1 eI)))) (.c (len_set (show row0_0.length = row0_0.length from rfl) (0 + v_i.toNat) (⟨(⟨((v_k.tmod (3 : Int)) == (0 : Int)), x3.fNum.fMag⟩ : OTBigInt), x3.fDen⟩ : OTRat)) .nil)))))) (mkS_free _ _) : laws_markRatS_o_L1_V .normal (laws_markRatS_o_L1_head  v_k v_i row0_0 pool0) (laws_markRatS_o_L1_head  r13 (w64 (v_i + (1 : Int))) (row0_0.set (0 + v_i.toNat) (⟨(⟨((v_k.tmod (3 : Int)) == (0 : Int)), x3.fNum.fMag⟩ : OTBigInt), x3.fDen⟩ : OTRat)) pool0))))
    (fun y12 h11 =>
    .bnd fun l13 h14 =>
    .bnd fun r15 h16 =>
    .ret ((okC_sound hmix (tape := t4 ++ ([.reg [nt, nt, nt, (.el ((eOTRat 0 1) x5), true), (.el ((eOTRat 0 1) x5), true), nt, (.re 34 (.osl 0 (y12.1 + 1) 0 y12.2) (.call { mv := [.ob 0 (y12.1 + 1) (Ob.mk 1 (l13.map eI) .live)], rc := [.pure], ac := [.c1 (.c0 (.at_ 0 0 y12.2)), ii], r := .n .i64 r15.1, T1 := [[Ob.mk 1 (r15.2.map eI) .live]], rr := ii, rrc := [.pure], rds := [0], sc := false }), true), nt], .reg [nt, nt, nt], .rst [0] [.rn (Ob.mk 3 ((row0_0.set (0 + v_i.toNat) (⟨(⟨((v_k.tmod (3 : Int)) == (0 : Int)), x3.fNum.fMag⟩ : OTBigInt), x3.fDen⟩ : OTRat)).map (eOTRat 0 1)) .live :: ((pool0.set y12.1 r15.2).map (poolO .live 1 eI)))] [(0, .c1 (.c0 (.len ((row0_0.set (0 + v_i.toNat) (⟨(⟨((v_k.tmod (3 : Int)) == (0 : Int)), x3.fNum.fMag⟩ : OTBigInt), x3.fDen⟩ : OTRat)).length)))), (1, ii), (5, ii)]] : List TE)) (nr := 1) (by kernel_rfl) (o5.app (.c (aH_some (rp := 0) (c := 1) (sz := 1) h11) (.c (rfl : mvL [.ob 0 (y12.1 + 1) (Ob.mk 1 (l13.map eI) .live)] 0 0 = some (0, (y12.1 + 1))) (.c (rfl : y12.2 = y12.2) (.c (pl_at (show (pool0.map (poolO .live 1 eI)) = (pool0.map (poolO .live 1 eI)) from rfl) kl h14) (.c (pure_live eI_pure l13 : PureLive [Ob.mk 1 (l13.map eI) .live]) (.c (pure_live eI_pure r15.2 : PureLive [Ob.mk 1 (r15.2.map eI) .live]) (.c (laws_markIntS_o_ok r9 0 y12.2 l13 r15 h16) (.c ((rn_cons (rn_es (tgt := (findIx [0])) (f' := (eOTRat 0 1)) (set_prf2 (show (row0_0.map (eOTRat 0 1)) = (row0_0.map (eOTRat 0 1)) from rfl) (0 + v_i.toNat) (⟨(⟨((v_k.tmod (3 : Int)) == (0 : Int)), x3.fNum.fMag⟩ : OTBigInt), x3.fDen⟩ : OTRat) (rfl : (setCells ((eOTRat 0 1) x3) 0 [.b ((v_k.tmod (3 : Int)) == (0 : Int))]) = (eOTRat 0 1) (⟨(⟨((v_k.tmod (3 : Int)) == (0 : Int)), x3.fNum.fMag⟩ : OTBigInt), x3.fDen⟩ : OTRat))) (fun x => (eOTRat_rn (rfl : (findIx [0]) 0 = some 0)) x)) (rn_pool (tgt := (findIx [0])) (pl_set (show (pool0.map (poolO .live 1 eI)) = (pool0.map (poolO .live 1 eI)) from rfl) y12.1 (show (r15.2.map eI) = (r15.2.map eI) from rfl)) (fun x => (nr_rn eI_nr) x))) : (Ob.mk 3 ((row0_0.set (0 + v_i.toNat) (⟨(⟨((v_k.tmod (3 : Int)) == (0 : Int)), x3.fNum.fMag⟩ : OTBigInt), x3.fDen⟩ : OTRat)).map (eOTRat 0 1)) .live :: ((pool0.set y12.1 r15.2).map (poolO .live 1 eI))) = List.map (rnO (findIx [0])) (Ob.mk 3 ((row0_0.map (eOTRat 0 1)).set (0 + v_i.toNat) (setCells ((eOTRat 0 1) x3) 0 [.b ((v_k.tmod (3 : Int)) == (0 : Int))])) .live :: ((pool0.map (poolO .live 1 eI)).set y12.1 (Ob.mk 1 (r15.2.map eI) .live)))) (.c (len_set (show row0_0.length = row0_0.length from rfl) (0 + v_i.toNat) (⟨(⟨((v_k.tmod (3 : Int)) == (0 : Int)), x3.fNum.fMag⟩ : OTBigInt), x3.fDen⟩ : OTRat)) .nil)))))))))) (mkS_free _ _) : laws_markRatS_o_L1_V .normal (laws_markRatS_o_L1_head  v_k v_i row0_0 pool0) (laws_markRatS_o_L1_head  r15.1 (w64 (v_i + (1 : Int))) (row0_0.set (0 + v_i.toNat) (⟨(⟨((v_k.tmod (3 : Int)) == (0 : Int)), x3.fNum.fMag⟩ : OTBigInt), x3.fDen⟩ : OTRat)) (pool0.set y12.1 r15.2)))))))
    (fun y8 h7 =>
    .bnd fun l9 h10 =>
    .bnd fun r11 h12 =>
    (let t4 : List TE := t2 ++ ([.reg [nt, nt, nt, (.el ((eOTRat 0 1) x5), true), (.el ((eOTRat 0 1) x5), true), (.el ((eOTRat 0 1) x5), true), nt, (.re 27 (.osl 0 (y8.1 + 1) 0 y8.2) (.call { mv := [.ob 0 (y8.1 + 1) (Ob.mk 1 (l9.map eI) .live)], rc := [.pure], ac := [.c1 (.c0 (.at_ 0 0 y8.2)), ii], r := .n .i64 r11.1, T1 := [[Ob.mk 1 (r11.2.map eI) .live]], rr := ii, rrc := [.pure], rds := [0], sc := false }), true), nt]] : List TE);
    have o5 := o3.app (.c (aH_some (rp := 0) (c := 1) (sz := 1) h7) (.c (rfl : mvL [.ob 0 (y8.1 + 1) (Ob.mk 1 (l9.map eI) .live)] 0 0 = some (0, (y8.1 + 1))) (.c (rfl : y8.2 = y8.2) (.c (pl_at (show (pool0.map (poolO .live 1 eI)) = (pool0.map (poolO .live 1 eI)) from rfl) kl h10) (.c (pure_live eI_pure l9 : PureLive [Ob.mk 1 (l9.map eI) .live]) (.c (pure_live eI_pure r11.2 : PureLive [Ob.mk 1 (r11.2.map eI) .live]) (.c (laws_markIntS_o_ok (w64 (v_k + (1 : Int))) 0 y8.2 l9 r11 h12) (.c ((h2).1) (.c ((h2).2) (.c (get_prf (set_prf2 (show (row0_0.map (eOTRat 0 1)) = (row0_0.map (eOTRat 0 1)) from rfl) (0 + v_i.toNat) (⟨(⟨((v_k.tmod (3 : Int)) == (0 : Int)), x3.fNum.fMag⟩ : OTBigInt), x3.fDen⟩ : OTRat) (rfl : (setCells ((eOTRat 0 1) x3) 0 [.b ((v_k.tmod (3 : Int)) == (0 : Int))]) = (eOTRat 0 1) (⟨(⟨((v_k.tmod (3 : Int)) == (0 : Int)), x3.fNum.fMag⟩ : OTBigInt), x3.fDen⟩ : OTRat))) h6) (.c (get_prf (set_prf2 (show (row0_0.map (eOTRat 0 1)) = (row0_0.map (eOTRat 0 1)) from rfl) (0 + v_i.toNat) (⟨(⟨((v_k.tmod (3 : Int)) == (0 : Int)), x3.fNum.fMag⟩ : OTBigInt), x3.fDen⟩ : OTRat) (rfl : (setCells ((eOTRat 0 1) x3) 0 [.b ((v_k.tmod (3 : Int)) == (0 : Int))]) = (eOTRat 0 1) (⟨(⟨((v_k.tmod (3 : Int)) == (0 : Int)), x3.fNum.fMag⟩ : OTBigInt), x3.fDen⟩ : OTRat))) h6) .nil)))))))))));
    .opt (fun h13 =>
    .bnd fun r15 h16 =>
    .ret ((okC_sound hmix (tape := t4 ++ ([.reg [nt, nt, nt, (.el ((eOTRat 0 1) x5), true), (.el ((eOTRat 0 1) x5), true), nt, (.re 34 (.isl 1 []) (.call { ac := [ii, ii], r := .n .i64 r15, sc := true }), true), nt], .reg [nt, nt, nt], .rst [0] [.rn (Ob.mk 3 ((row0_0.set (0 + v_i.toNat) (⟨(⟨((v_k.tmod (3 : Int)) == (0 : Int)), x3.fNum.fMag⟩ : OTBigInt), x3.fDen⟩ : OTRat)).map (eOTRat 0 1)) .live :: ((pool0.set y8.1 r11.2).map (poolO .live 1 eI)))] [(0, .c1 (.c0 (.len ((row0_0.set (0 + v_i.toNat) (⟨(⟨((v_k.tmod (3 : Int)) == (0 : Int)), x3.fNum.fMag⟩ : OTBigInt), x3.fDen⟩ : OTRat)).length)))), (1, ii), (5, ii)]] : List TE)) (nr := 1) (by kernel_rfl) (o5.app (.c (aH_none (rp := 0) (c := 1) (sz := 1) h13) (.c (laws_markIntS_ok ([] : List Int) r11.1 r15 h16) (.c (Sc.n _ _ : Sc (.n .i64 r15)) (.c ((rn_cons (rn_es (tgt := (findIx [0])) (f' := (eOTRat 0 1)) (set_prf2 (show (row0_0.map (eOTRat 0 1)) = (row0_0.map (eOTRat 0 1)) from rfl) (0 + v_i.toNat) (⟨(⟨((v_k.tmod (3 : Int)) == (0 : Int)), x3.fNum.fMag⟩ : OTBigInt), x3.fDen⟩ : OTRat) (rfl : (setCells ((eOTRat 0 1) x3) 0 [.b ((v_k.tmod (3 : Int)) == (0 : Int))]) = (eOTRat 0 1) (⟨(⟨((v_k.tmod (3 : Int)) == (0 : Int)), x3.fNum.fMag⟩ : OTBigInt), x3.fDen⟩ : OTRat))) (fun x => (eOTRat_rn (rfl : (findIx [0]) 0 = some 0)) x)) (rn_pool (tgt := (findIx [0])) (pl_set (show (pool0.map (poolO .live 1 eI)) = (pool0.map (poolO .live 1 eI)) from rfl) y8.1 (show (r11.2.map eI) = (r11.2.map eI) from rfl)) (fun x => (nr_rn eI_nr) x))) : (Ob.mk 3 ((row0_0.set (0 + v_i.toNat) (⟨(⟨((v_k.tmod (3 : Int)) == (0 : Int)), x3.fNum.fMag⟩ : OTBigInt), x3.fDen⟩ : OTRat)).map (eOTRat 0 1)) .live :: ((pool0.set y8.1 r11.2).map (poolO .live 1 eI))) = List.map (rnO (findIx [0])) (Ob.mk 3 ((row0_0.map (eOTRat 0 1)).set (0 + v_i.toNat) (setCells ((eOTRat 0 1) x3) 0 [.b ((v_k.tmod (3 : Int)) == (0 : Int))])) .live :: ((pool0.map (poolO .live 1 eI)).set y8.1 (Ob.mk 1 (r11.2.map eI) .live)))) (.c (len_set (show row0_0.length = row0_0.length from rfl) (0 + v_i.toNat) (⟨(⟨((v_k.tmod (3 : Int)) == (0 : Int)), x3.fNum.fMag⟩ : OTBigInt), x3.fDen⟩ : OTRat)) .nil)))))) (mkS_free _ _) : laws_markRatS_o_L1_V .normal (laws_markRatS_o_L1_head  v_k v_i row0_0 pool0) (laws_markRatS_o_L1_head  r15 (w64 (v_i + (1 : Int))) (row0_0.set (0 + v_i.toNat) (⟨(⟨((v_k.tmod (3 : Int)) == (0 : Int)), x3.fNum.fMag⟩ : OTBigInt), x3.fDen⟩ : OTRat)) (pool0.set y8.1 r11.2)))))
    (fun y14 h13 =>
    .bnd fun l15 h16 =>
    .bnd fun r17 h18 =>
    .ret ((okC_sound hmix (tape := t4 ++ ([.reg [nt, nt, nt, (.el ((eOTRat 0 1) x5), true), (.el ((eOTRat 0 1) x5), true), nt, (.re 34 (.osl 0 (y14.1 + 1) 0 y14.2) (.call { mv := [.ob 0 (y14.1 + 1) (Ob.mk 1 (l15.map eI) .live)], rc := [.pure], ac := [.c1 (.c0 (.at_ 0 0 y14.2)), ii], r := .n .i64 r17.1, T1 := [[Ob.mk 1 (r17.2.map eI) .live]], rr := ii, rrc := [.pure], rds := [0], sc := false }), true), nt], .reg [nt, nt, nt], .rst [0] [.rn (Ob.mk 3 ((row0_0.set (0 + v_i.toNat) (⟨(⟨((v_k.tmod (3 : Int)) == (0 : Int)), x3.fNum.fMag⟩ : OTBigInt), x3.fDen⟩ : OTRat)).map (eOTRat 0 1)) .live :: (((pool0.set y8.1 r11.2).set y14.1 r17.2).map (poolO .live 1 eI)))] [(0, .c1 (.c0 (.len ((row0_0.set (0 + v_i.toNat) (⟨(⟨((v_k.tmod (3 : Int)) == (0 : Int)), x3.fNum.fMag⟩ : OTBigInt), x3.fDen⟩ : OTRat)).length)))), (1, ii), (5, ii)]] : List TE)) (nr := 1) (by kernel_rfl) (o5.app (.c (aH_some (rp := 0) (c := 1) (sz := 1) h13) (.c (rfl : mvL [.ob 0 (y14.1 + 1) (Ob.mk 1 (l15.map eI) .live)] 0 0 = some (0, (y14.1 + 1))) (.c (rfl : y14.2 = y14.2) (.c (pl_at (pl_set (show (pool0.map (poolO .live 1 eI)) = (pool0.map (poolO .live 1 eI)) from rfl) y8.1 (show (r11.2.map eI) = (r11.2.map eI) from rfl)) kl h16) (.c (pure_live eI_pure l15 : PureLive [Ob.mk 1 (l15.map eI) .live]) (.c (pure_live eI_pure r17.2 : PureLive [Ob.mk 1 (r17.2.map eI) .live]) (.c (laws_markIntS_o_ok r11.1 0 y14.2 l15 r17 h18) (.c ((rn_cons (rn_es (tgt := (findIx [0])) (f' := (eOTRat 0 1)) (set_prf2 (show (row0_0.map (eOTRat 0 1)) = (row0_0.map (eOTRat 0 1)) from rfl) (0 + v_i.toNat) (⟨(⟨((v_k.tmod (3 : Int)) == (0 : Int)), x3.fNum.fMag⟩ : OTBigInt), x3.fDen⟩ : OTRat) (rfl : (setCells ((eOTRat 0 1) x3) 0 [.b ((v_k.tmod (3 : Int)) == (0 : Int))]) = (eOTRat 0 1) (⟨(⟨((v_k.tmod (3 : Int)) == (0 : Int)), x3.fNum.fMag⟩ : OTBigInt), x3.fDen⟩ : OTRat))) (fun x => (eOTRat_rn (rfl : (findIx [0]) 0 = some 0)) x)) (rn_pool (tgt := (findIx [0])) (pl_set (pl_set (show (pool0.map (poolO .live 1 eI)) = (pool0.map (poolO .live 1 eI)) from rfl) y8.1 (show (r11.2.map eI) = (r11.2.map eI) from rfl)) y14.1 (show (r17.2.map eI) = (r17.2.map eI) from rfl)) (fun x => (nr_rn eI_nr) x))) : (Ob.mk 3 ((row0_0.set (0 + v_i.toNat) (⟨(⟨((v_k.tmod (3 : Int)) == (0 : Int)), x3.fNum.fMag⟩ : OTBigInt), x3.fDen⟩ : OTRat)).map (eOTRat 0 1)) .live :: (((pool0.set y8.1 r11.2).set y14.1 r17.2).map (poolO .live 1 eI))) = List.map (rnO (findIx [0])) (Ob.mk 3 ((row0_0.map (eOTRat 0 1)).set (0 + v_i.toNat) (setCells ((eOTRat 0 1) x3) 0 [.b ((v_k.tmod (3 : Int)) == (0 : Int))])) .live :: (((pool0.map (poolO .live 1 eI)).set y8.1 (Ob.mk 1 (r11.2.map eI) .live)).set y14.1 (Ob.mk 1 (r17.2.map eI) .live)))) (.c (len_set (show row0_0.length = row0_0.length from rfl) (0 + v_i.toNat) (⟨(⟨((v_k.tmod (3 : Int)) == (0 : Int)), x3.fNum.fMag⟩ : OTBigInt), x3.fDen⟩ : OTRat)) .nil)))))))))) (mkS_free _ _) : laws_markRatS_o_L1_V .normal (laws_markRatS_o_L1_head  v_k v_i row0_0 pool0) (laws_markRatS_o_L1_head  r17.1 (w64 (v_i + (1 : Int))) (row0_0.set (0 + v_i.toNat) (⟨(⟨((v_k.tmod (3 : Int)) == (0 : Int)), x3.fNum.fMag⟩ : OTBigInt), x3.fDen⟩ : OTRat)) ((pool0.set y8.1 r11.2).set y14.1 r17.2)))))))))
    (fun h1 =>
    .ret ((okC_sound hmix (tape := t1 ++ ([.br false, .rst [0] [.rn (Ob.mk 3 (row0_0.map (eOTRat 0 1)) .live :: (pool0.map (poolO .live 1 eI)))] [(1, ii)]] : List TE)) (nr := 1) (by kernel_rfl) (.c h1 (.c ((rn_cons (rn_es (tgt := (findIx [0])) (f' := (eOTRat 0 1)) (show (row0_0.map (eOTRat 0 1)) = (row0_0.map (eOTRat 0 1)) from rfl) (fun x => (eOTRat_rn (rfl : (findIx [0]) 0 = some 0)) x)) (rn_pool (tgt := (findIx [0])) (show (pool0.map (poolO .live 1 eI)) = (pool0.map (poolO .live 1 eI)) from rfl) (fun x => (nr_rn eI_nr) x))) : (Ob.mk 3 (row0_0.map (eOTRat 0 1)) .live :: (pool0.map (poolO .live 1 eI))) = List.map (rnO (findIx [0])) (Ob.mk 3 (row0_0.map (eOTRat 0 1)) .live :: (pool0.map (poolO .live 1 eI)))) .nil)) (mkS_free _ _) : laws_markRatS_o_L1_V (.exit 0) (laws_markRatS_o_L1_head  v_k v_i row0_0 pool0) (laws_markRatS_o_L1_out  (v_k, row0_0, pool0))))))

theorem laws_markRatS_o_L1_ok  (v_k : Int) (v_i : Int) (row0_0 : (List OTRat)) (pool0 : (List (List Int))) : ∀ r, laws_markRatS_o_L1  v_k v_i row0_0 pool0 = some r → VLoop PP 38 1 (nodeAt (bodyOf PP 15) [1, 0, 1, 0, 0]) (laws_markRatS_o_L1_ex r) (laws_markRatS_o_L1_head  v_k v_i row0_0 pool0) (laws_markRatS_o_L1_out  r) := fun r h =>
  iter_ok (head := fun w : Int × Int × (List OTRat) × (List (List Int)) => laws_markRatS_o_L1_head  w.1 w.2.1 w.2.2.1 w.2.2.2) (ex := laws_markRatS_o_L1_ex) (out := laws_markRatS_o_L1_out ) (by intro r; unfold laws_markRatS_o_L1_ex; split <;> simp) (fun w => laws_markRatS_o_L1_body_ok  w.1 w.2.1 w.2.2.1 w.2.2.2) (v_k, v_i, row0_0, pool0) r h

def laws_markRatS_o (v_k : Int) (rw0_0 : (List OTRat)) (pl0 : (List (List Int))) : Option (Int × (List OTRat) × (List (List Int))) :=
  laws_markRatS_o_L1 v_k 0 rw0_0 pl0 >>= fun r1 =>
  some (r1.1, r1.2.1, r1.2.2)

theorem laws_markRatS_o_ok (v_k : Int) (rw0_0 : (List OTRat)) (pl0 : (List (List Int))) : Wp (laws_markRatS_o v_k rw0_0 pl0) (fun a => Con PP 15 [.osl 0 0 0 rw0_0.length, .n .i64 v_k] [(Ob.mk 3 (rw0_0.map (eOTRat 0 1)) .live :: (pl0.map (poolO .live 1 eI)))] (.n .i64 a.1) [(Ob.mk 3 (a.2.1.map (eOTRat 0 1)) .live :: (a.2.2.map (poolO .live 1 eI)))]) := by
  unfold laws_markRatS_o
  exact .bnd fun r1 h2 =>
    .ret (runF_con hmix (tape := [.reg [nt], .reg [nt], .rst [0] [.rn (Ob.mk 3 (rw0_0.map (eOTRat 0 1)) .live :: (pl0.map (poolO .live 1 eI)))] [(0, ii), (1, ii), (5, ii)], .sub (.exit 0) [(1, .n .i64 r1.1)] [(Ob.mk 3 (r1.2.1.map (eOTRat 0 1)) .live :: (r1.2.2.map (poolO .live 1 eI)))], .reg [nt, nt]]) (mv := [0]) (rc := [.rn (Ob.mk 3 (r1.2.1.map (eOTRat 0 1)) .live :: (r1.2.2.map (poolO .live 1 eI)))]) (rr := ii) (by kernel_rfl) (.c ((rn_cons (rn_es (tgt := (findIx [0])) (f' := (eOTRat 0 1)) (show (rw0_0.map (eOTRat 0 1)) = (rw0_0.map (eOTRat 0 1)) from rfl) (fun x => (eOTRat_rn (rfl : (findIx [0]) 0 = some 0)) x)) (rn_pool (tgt := (findIx [0])) (show (pl0.map (poolO .live 1 eI)) = (pl0.map (poolO .live 1 eI)) from rfl) (fun x => (nr_rn eI_nr) x))) : (Ob.mk 3 (rw0_0.map (eOTRat 0 1)) .live :: (pl0.map (poolO .live 1 eI))) = List.map (rnO (findIx [0])) (Ob.mk 3 (rw0_0.map (eOTRat 0 1)) .live :: (pl0.map (poolO .live 1 eI)))) (.c ((laws_markRatS_o_L1_ok v_k 0 rw0_0 pl0 r1 h2).vex) (.c ((rn_cons (rn_es (tgt := (findIx [0])) (f' := (eOTRat 0 1)) (show (r1.2.1.map (eOTRat 0 1)) = (r1.2.1.map (eOTRat 0 1)) from rfl) (fun x => (eOTRat_rn (rfl : (findIx [0]) 0 = some 0)) x)) (rn_pool (tgt := (findIx [0])) (show (r1.2.2.map (poolO .live 1 eI)) = (r1.2.2.map (poolO .live 1 eI)) from rfl) (fun x => (nr_rn eI_nr) x))) : (Ob.mk 3 (r1.2.1.map (eOTRat 0 1)) .live :: (r1.2.2.map (poolO .live 1 eI))) = List.map (rnO (findIx [0])) (Ob.mk 3 (r1.2.1.map (eOTRat 0 1)) .live :: (r1.2.2.map (poolO .live 1 eI)))) .nil))))

def laws_markIntS_o'_L1_head  (v_k : Int) (v_i : Int) (row0 : (List Int)) : S := mkS [(0, .osl 0 0 0 row0.length), (1, .n .i64 v_k), (5, .n .i64 v_i)] [[Ob.mk 1 (row0.map eI) .live]]

def laws_markIntS_o'_L1_ex : (Int × (List Int)) → Exit
  | _ => .exit 0

def laws_markIntS_o'_L1_out  : (Int × (List Int)) → S
  | a => mkS [(1, .n .i64 a.1)] [[Ob.mk 1 (a.2.map eI) .live]]

abbrev laws_markIntS_o'_L1_V := VEx PP 19 1 (nodeAt (bodyOf PP 16) [1, 0, 1, 0, 0])

def laws_markIntS_o'_L1_body  (v_k : Int) (v_i : Int) (row0 : (List Int)) : Option ((Int × Int × (List Int)) ⊕ (Int × (List Int))) :=
  if (decide (v_i < ((row0.length : Nat) : Int))) = true then
    if 0 ≤ v_i ∧ v_i < (row0.length : Nat) then
    if (0 + v_i.toNat) < row0.length then
    some (.inl (w64 (v_k + (1 : Int)), w64 (v_i + (1 : Int)), row0.set (0 + v_i.toNat) v_k))
    else none
    else none
  else
    some (.inr (v_k, row0))

def laws_markIntS_o'_L1  (v_k : Int) (v_i : Int) (row0 : (List Int)) : Option (Int × (List Int)) := iter (fun w : Int × Int × (List Int) => laws_markIntS_o'_L1_body  w.1 w.2.1 w.2.2) (v_k, v_i, row0)

theorem laws_markIntS_o'_L1_body_ok  (v_k : Int) (v_i : Int) (row0 : (List Int)) : Wp (laws_markIntS_o'_L1_body  v_k v_i row0) (Sum.elim
    (fun w => laws_markIntS_o'_L1_V .normal (laws_markIntS_o'_L1_head  v_k v_i row0) (laws_markIntS_o'_L1_head  w.1 w.2.1 w.2.2))
    (fun r => laws_markIntS_o'_L1_V (laws_markIntS_o'_L1_ex r) (laws_markIntS_o'_L1_head  v_k v_i row0) (laws_markIntS_o'_L1_out  r))) := by
  unfold laws_markIntS_o'_L1_body
  exact (let t1 : List TE := [.reg [nt, nt, nt, nt]];
    .ite (fun h1 =>
    .grd fun h2 =>
    .grd fun h3 =>
    .ret ((okC_sound hmix (tape := t1 ++ ([.br true, .reg [nt, nt, nt, nt, (.bd, true)], .reg [nt, nt, nt], .reg [nt, nt, nt], .rst [0] [.as [Ob.mk 1 ((row0.set (0 + v_i.toNat) v_k).map eI) .live]] [(0, .c1 (.c0 (.len ((row0.set (0 + v_i.toNat) v_k).length)))), (1, ii), (5, ii)]] : List TE)) (nr := 1) (by kernel_rfl) (.c h1 (.c ((h2).1) (.c ((h2).2) (.c (lt_map h3 : (0 + v_i.toNat) < (row0.map eI).length) (.c (rfl : 1 = 1) (.c (row_prf (set_prf (show (row0.map eI) = (row0.map eI) from rfl) (0 + v_i.toNat) v_k) : [Ob.mk 1 ((row0.map eI).set (0 + v_i.toNat) [.n .i64 v_k]) .live] = [Ob.mk 1 ((row0.set (0 + v_i.toNat) v_k).map eI) .live]) (.c (pure_row eI_pure (row0.set (0 + v_i.toNat) v_k) : PureRow [Ob.mk 1 ((row0.set (0 + v_i.toNat) v_k).map eI) .live]) (.c (len_set (show row0.length = row0.length from rfl) (0 + v_i.toNat) v_k) .nil)))))))) (mkS_free _ _) : laws_markIntS_o'_L1_V .normal (laws_markIntS_o'_L1_head  v_k v_i row0) (laws_markIntS_o'_L1_head  (w64 (v_k + (1 : Int))) (w64 (v_i + (1 : Int))) (row0.set (0 + v_i.toNat) v_k)))))
    (fun h1 =>
    .ret ((okC_sound hmix (tape := t1 ++ ([.br false, .rst [0] [.pure] [(1, ii)]] : List TE)) (nr := 1) (by kernel_rfl) (.c h1 (.c (pure_row eI_pure row0 : PureRow [Ob.mk 1 (row0.map eI) .live]) .nil)) (mkS_free _ _) : laws_markIntS_o'_L1_V (.exit 0) (laws_markIntS_o'_L1_head  v_k v_i row0) (laws_markIntS_o'_L1_out  (v_k, row0))))))

theorem laws_markIntS_o'_L1_ok  (v_k : Int) (v_i : Int) (row0 : (List Int)) : ∀ r, laws_markIntS_o'_L1  v_k v_i row0 = some r → VLoop PP 19 1 (nodeAt (bodyOf PP 16) [1, 0, 1, 0, 0]) (laws_markIntS_o'_L1_ex r) (laws_markIntS_o'_L1_head  v_k v_i row0) (laws_markIntS_o'_L1_out  r) := fun r h =>
  iter_ok (head := fun w : Int × Int × (List Int) => laws_markIntS_o'_L1_head  w.1 w.2.1 w.2.2) (ex := laws_markIntS_o'_L1_ex) (out := laws_markIntS_o'_L1_out ) (by intro r; unfold laws_markIntS_o'_L1_ex; split <;> simp) (fun w => laws_markIntS_o'_L1_body_ok  w.1 w.2.1 w.2.2) (v_k, v_i, row0) r h

def laws_markIntS_o' (v_k : Int) (rw0 : (List Int)) : Option (Int × (List Int)) :=
  laws_markIntS_o'_L1 v_k 0 rw0 >>= fun r1 =>
  some (r1.1, r1.2)

theorem laws_markIntS_o'_ok (v_k : Int) (rw0 : (List Int)) : Wp (laws_markIntS_o' v_k rw0) (fun a => Con PP 16 [.osl 0 0 0 rw0.length, .n .i64 v_k] [[Ob.mk 1 (rw0.map eI) .live]] (.n .i64 a.1) [[Ob.mk 1 (a.2.map eI) .live]]) := by
  unfold laws_markIntS_o'
  exact .bnd fun r1 h2 =>
    .ret (runF_con hmix (tape := [.reg [nt], .reg [nt], .rst [0] [.pure] [(0, ii), (1, ii), (5, ii)], .sub (.exit 0) [(1, .n .i64 r1.1)] [[Ob.mk 1 (r1.2.map eI) .live]], .reg [nt, nt]]) (mv := [0]) (rc := [.pure]) (rr := ii) (by kernel_rfl) (.c (pure_row eI_pure rw0 : PureRow [Ob.mk 1 (rw0.map eI) .live]) (.c ((laws_markIntS_o'_L1_ok v_k 0 rw0 r1 h2).vex) (.c (pure_row eI_pure r1.2 : PureRow [Ob.mk 1 (r1.2.map eI) .live]) .nil))))

def laws_heldIntS_L1_head (v_a : (List Int)) (v_k : Int) (v_i : Int) : S := mkS [(0, .isl 1 (v_a.map eI)), (1, .n .i64 v_k), (5, .n .i64 v_i)] []

def laws_heldIntS_L1_ex : ((Int) ⊕ (Unit)) → Exit
  | .inl _ => .exit 0
  | .inr _ => .ret

def laws_heldIntS_L1_out (v_a : (List Int)) : ((Int) ⊕ (Unit)) → S
  | .inl a => mkS [(1, .n .i64 a)] []
  | .inr a => mkS [(4, .n .i64 (-1 : Int))] []

abbrev laws_heldIntS_L1_V := VEx PP 21 0 (nodeAt (bodyOf PP 17) [1, 0, 1, 0, 0])

def laws_heldIntS_L1_body (v_a : (List Int)) (v_k : Int) (v_i : Int) : Option ((Int × Int) ⊕ ((Int) ⊕ (Unit))) :=
  if (decide (v_i < (len_ eI v_a))) = true then
    if 0 ≤ v_i ∧ v_i < v_a.length then
    v_a[v_i.toNat]? >>= fun x3 =>
    if (x3 != v_k) = true then
      some (.inr (.inr ()))
    else
      some (.inl (w64 (v_k + (1 : Int)), w64 (v_i + (1 : Int))))
    else none
  else
    some (.inr (.inl v_k))

def laws_heldIntS_L1 (v_a : (List Int)) (v_k : Int) (v_i : Int) : Option ((Int) ⊕ (Unit)) := iter (fun w : Int × Int => laws_heldIntS_L1_body v_a w.1 w.2) (v_k, v_i)

theorem laws_heldIntS_L1_body_ok (v_a : (List Int)) (v_k : Int) (v_i : Int) : Wp (laws_heldIntS_L1_body v_a v_k v_i) (Sum.elim
    (fun w => laws_heldIntS_L1_V .normal (laws_heldIntS_L1_head v_a v_k v_i) (laws_heldIntS_L1_head v_a w.1 w.2))
    (fun r => laws_heldIntS_L1_V (laws_heldIntS_L1_ex r) (laws_heldIntS_L1_head v_a v_k v_i) (laws_heldIntS_L1_out v_a r))) := by
  unfold laws_heldIntS_L1_body
  exact (let t1 : List TE := [.reg [nt, nt, nt, nt]];
    .ite (fun h1 =>
    .grd fun h2 =>
    .bnd fun x3 h4 =>
    (let t2 : List TE := t1 ++ ([.br true, .reg [nt, nt, nt, (.el (eI x3), true), nt, nt]] : List TE);
    have o3 := ((.c h1 (.c ((h2).1) (.c (lt_mapI (h2).2 : v_i < ((v_a.map eI).length : Nat)) (.c (map_get h4 : (v_a.map eI)[v_i.toNat]? = some (eI x3)) .nil)))) : AllP _);
    .ite (fun h5 =>
    .ret ((okC_sound hmix (tape := t2 ++ ([.br true, .reg [nt], .rst [] [] [(4, ii)]] : List TE)) (nr := 0) (by kernel_rfl) (o3.app (.c h5 .nil)) (mkS_free _ _) : laws_heldIntS_L1_V (.ret) (laws_heldIntS_L1_head v_a v_k v_i) (laws_heldIntS_L1_out v_a (.inr ())))))
    (fun h5 =>
    .ret ((okC_sound hmix (tape := t2 ++ ([.br false, .reg [nt, nt, nt], .reg [nt, nt, nt], .rst [] [] [(0, ii), (1, ii), (5, ii)]] : List TE)) (nr := 0) (by kernel_rfl) (o3.app (.c h5 .nil)) (mkS_free _ _) : laws_heldIntS_L1_V .normal (laws_heldIntS_L1_head v_a v_k v_i) (laws_heldIntS_L1_head v_a (w64 (v_k + (1 : Int))) (w64 (v_i + (1 : Int)))))))))
    (fun h1 =>
    .ret ((okC_sound hmix (tape := t1 ++ ([.br false, .rst [] [] [(1, ii)]] : List TE)) (nr := 0) (by kernel_rfl) (.c h1 .nil) (mkS_free _ _) : laws_heldIntS_L1_V (.exit 0) (laws_heldIntS_L1_head v_a v_k v_i) (laws_heldIntS_L1_out v_a (.inl v_k))))))

theorem laws_heldIntS_L1_ok (v_a : (List Int)) (v_k : Int) (v_i : Int) : ∀ r, laws_heldIntS_L1 v_a v_k v_i = some r → VLoop PP 21 0 (nodeAt (bodyOf PP 17) [1, 0, 1, 0, 0]) (laws_heldIntS_L1_ex r) (laws_heldIntS_L1_head v_a v_k v_i) (laws_heldIntS_L1_out v_a r) := fun r h =>
  iter_ok (head := fun w : Int × Int => laws_heldIntS_L1_head v_a w.1 w.2) (ex := laws_heldIntS_L1_ex) (out := laws_heldIntS_L1_out v_a) (by intro r; unfold laws_heldIntS_L1_ex; split <;> simp) (fun w => laws_heldIntS_L1_body_ok v_a w.1 w.2) (v_k, v_i) r h

def laws_heldIntS (v_a : (List Int)) (v_k : Int) : Option Int :=
  laws_heldIntS_L1 v_a v_k 0 >>= fun r1 =>
  match r1 with
  | .inl a3 => (some a3)
  | .inr a3 => (some (-1))

theorem laws_heldIntS_ok (v_a : (List Int)) (v_k : Int) : Wp (laws_heldIntS v_a v_k) (fun r => Con PP 17 [.isl 1 (v_a.map eI), .n .i64 v_k] [] (.n .i64 r) []) := by
  unfold laws_heldIntS
  exact .bnd fun r1 h2 =>
    (let t1 : List TE := [.reg [nt], .reg [nt]];
    (by
    rcases r1 with a3 | a3
    · exact (.ret (runF_con0 hmix (tape := t1 ++ ([.rst [] [] [(0, ii), (1, ii), (5, ii)], .sub (.exit 0) [(1, .n .i64 a3)] [], .reg [nt, nt]] : List TE)) (rr := ii) (by kernel_rfl) (.c ((laws_heldIntS_L1_ok v_a v_k 0 (.inl a3) h2).vex) .nil)))
    · exact (.ret (runF_con0 hmix (tape := t1 ++ ([.rst [] [] [(0, ii), (1, ii), (5, ii)], .sub (.ret) [(4, .n .i64 (-1 : Int))] []] : List TE)) (rr := ii) (by kernel_rfl) (.c ((laws_heldIntS_L1_ok v_a v_k 0 (.inr a3) h2).vex) .nil)))))

def laws_FnExactOverloadedMembers (v_aS : TStructure) (v_aQ : (List TRat)) (v_aW : (List Int)) : Option Bool :=
  if (decide ((1048576 : Int) < (len_ eI v_aW))) = true then
    some true
  else
    laws_szStructure v_aS 1048576 >>= fun r2 =>
    if (decide (r2 < (0 : Int))) = true then
      some true
    else
      laws_szRatS v_aQ r2 >>= fun r5 =>
      if (decide (r5 < (0 : Int))) = true then
        some true
      else
        laws_toStructure_o v_aS >>= fun r8 =>
        laws_toRatS_o v_aQ >>= fun r10 =>
        laws_toIntS_o v_aW >>= fun r12 =>
        if r10.1.all (inOTRat r10.2) = true then
        spec_OverloadedMembers (⟨r8.1, r8.2⟩ : TStructure) (r10.1.map (vwOTRat r10.2)) r12 >>= fun r15 =>
        impl_OverloadedMembers_o (⟨r8.1, r8.2⟩ : TStructure) (r10.1.map (vwOTRat r10.2)) r12 >>= fun r17 =>
        match r17 with
        | .inl a19 => (laws_eqIntS a19 r15 >>= fun r20 =>
          if r20 = true then
            laws_eqStructure (⟨r8.1, r8.2⟩ : TStructure) (⟨r8.1, r8.2⟩ : TStructure) >>= fun r23 =>
            if r23 = true then
              laws_eqRatS (r10.1.map (vwOTRat r10.2)) (r10.1.map (vwOTRat r10.2)) >>= fun r26 =>
              if r26 = true then
                laws_eqIntS r12 r12 >>= fun r29 =>
                if r29 = true then
                  laws_markStructure_o 1 r8.1 r8.2 >>= fun r32 =>
                  laws_markRatS_o r32.1 r10.1 r10.2 >>= fun r34 =>
                  laws_markIntS_o' r34.1 r12 >>= fun r36 =>
                  if (decide (r36.1 < (0 : Int))) = true then
                    some false
                  else
                    laws_markIntS_o' 1 a19 >>= fun r39 =>
                    if 0 + a19.length ≤ r39.2.length then
                    laws_heldIntS ((r39.2.drop 0).take a19.length) 1 >>= fun r42 =>
                    if (decide (r42 < (0 : Int))) = true then
                      some false
                    else
                      if (r42 != r39.1) = true then
                        some false
                      else
                        some true
                    else none
                else
                  some false
              else
                some false
            else
              some false
          else
            some false)
        | .inr a19 => (laws_eqIntS ([] : List Int) r15 >>= fun r20 =>
          if r20 = true then
            laws_eqStructure (⟨r8.1, r8.2⟩ : TStructure) (⟨r8.1, r8.2⟩ : TStructure) >>= fun r23 =>
            if r23 = true then
              laws_eqRatS (r10.1.map (vwOTRat r10.2)) (r10.1.map (vwOTRat r10.2)) >>= fun r26 =>
              if r26 = true then
                laws_eqIntS r12 r12 >>= fun r29 =>
                if r29 = true then
                  laws_markStructure_o 1 r8.1 r8.2 >>= fun r32 =>
                  laws_markRatS_o r32.1 r10.1 r10.2 >>= fun r34 =>
                  laws_markIntS_o' r34.1 r12 >>= fun r36 =>
                  if (decide (r36.1 < (0 : Int))) = true then
                    some false
                  else
                    laws_markIntS ([] : List Int) 1 >>= fun r39 =>
                    laws_heldIntS ([] : List Int) 1 >>= fun r41 =>
                    if (decide (r41 < (0 : Int))) = true then
                      some false
                    else
                      if (r41 != r39) = true then
                        some false
                      else
                        some true
                else
                  some false
              else
                some false
            else
              some false
          else
            some false)
        else none

set_option maxHeartbeats 4000000 in
theorem laws_FnExactOverloadedMembers_ok (v_aS : TStructure) (v_aQ : (List TRat)) (v_aW : (List Int)) : Wp (laws_FnExactOverloadedMembers v_aS v_aQ v_aW) (fun r => Con PP 3 [.agg [.isl 4 (v_aS.fJoints.map eTJoint), .isl 3 (v_aS.fMembers.map eTMember)], .isl 3 (v_aQ.map eTRat), .isl 1 (v_aW.map eI)] [] (.b r) []) := by
  unfold laws_FnExactOverloadedMembers
  exact (let t1 : List TE := [.reg [nt, nt], .reg [nt, nt, nt]];
    .ite (fun h1 =>
    .ret (runF_con0 hmix (tape := t1 ++ ([.br true, .reg [nt]] : List TE)) (rr := ii) (by kernel_rfl) (.c h1 .nil)))
    (fun h1 =>
    .bnd fun r2 h3 =>
    (let t2 : List TE := t1 ++ ([.br false, .reg [nt], .reg [nt, nt, (.call { ac := [ii, ii], r := .n .i64 r2, sc := true }, true), nt], .reg [nt, nt]] : List TE);
    have o3 := ((.c h1 (.c (laws_szStructure_ok v_aS 1048576 r2 h3) (.c (Sc.n _ _ : Sc (.n .i64 r2)) .nil))) : AllP _);
    .ite (fun h4 =>
    .ret (runF_con0 hmix (tape := t2 ++ ([.br true, .reg [nt]] : List TE)) (rr := ii) (by kernel_rfl) (o3.app (.c h4 .nil))))
    (fun h4 =>
    .bnd fun r5 h6 =>
    (let t4 : List TE := t2 ++ ([.br false, .reg [nt, nt, (.call { ac := [ii, ii], r := .n .i64 r5, sc := true }, true), nt], .reg [nt, nt]] : List TE);
    have o5 := o3.app (.c h4 (.c (laws_szRatS_ok v_aQ r2 r5 h6) (.c (Sc.n _ _ : Sc (.n .i64 r5)) .nil)));
    .ite (fun h7 =>
    .ret (runF_con0 hmix (tape := t4 ++ ([.br true, .reg [nt]] : List TE)) (rr := ii) (by kernel_rfl) (o5.app (.c h7 .nil))))
    (fun h7 =>
    .bnd fun r8 h9 =>
    .bnd fun r10 h11 =>
    .bnd fun r12 h13 =>
    .grd fun h14 =>
    .bnd fun r15 h16 =>
    .bnd fun r17 h18 =>
    (let t6 : List TE := t4 ++ ([.br false, .reg [nt, (.call { mv := [], rc := [], ac := [ii], r := .agg [.osl 0 0 0 r8.1.length, .osl 0 1 0 r8.2.length], T1 := [[Ob.mk 4 (r8.1.map eTJoint) .live, Ob.mk 3 (r8.2.map eTMember) .live]], rr := .c1 (.agg [.id, .id]), rrc := [.rn [Ob.mk 4 (r8.1.map eTJoint) .live, Ob.mk 3 (r8.2.map eTMember) .live]], rds := [], sc := true }, true), nt, (.call { mv := [], rc := [], ac := [ii], r := .osl 0 0 0 r10.1.length, T1 := [(Ob.mk 3 (r10.1.map (eOTRat 0 1)) .live :: (r10.2.map (poolO .live 1 eI)))], rr := ii, rrc := [.rn (Ob.mk 3 (r10.1.map (eOTRat 21 1)) .live :: (r10.2.map (poolO .live 1 eI)))], rds := [], sc := true }, true), nt, (.call { mv := [], rc := [], ac := [ii], r := .osl 0 0 0 r12.length, T1 := [[Ob.mk 1 (r12.map eI) .live]], rr := ii, rrc := [.pure], rds := [], sc := true }, true), (.fz 23 (.fz 21 (.fz 19 (.call { ac := [.c1 (.agg [.sl (r8.1.map eTJoint), .sl (r8.2.map eTMember)]), .c1 (.c0 (.view 21 (Ob.mk 3 (r10.1.map (eOTRat 21 1)) .frz) ((r10.1.map (vwOTRat r10.2)).map eTRat))), .c1 (.c0 (.sl (r12.map eI)))], rds := [19, 21, 23], r := .isl 1 (r15.map eI), sc := false }))), true), nt], .reg [nt, (.call { mv := [], rc := [], ac := [ii], r := .agg [.osl 0 0 0 r8.1.length, .osl 0 1 0 r8.2.length], T1 := [[Ob.mk 4 (r8.1.map eTJoint) .live, Ob.mk 3 (r8.2.map eTMember) .live]], rr := .c1 (.agg [.id, .id]), rrc := [.rn [Ob.mk 4 (r8.1.map eTJoint) .live, Ob.mk 3 (r8.2.map eTMember) .live]], rds := [], sc := true }, true), nt, nt], .reg [nt, (.call { mv := [], rc := [], ac := [ii], r := .osl 0 0 0 r10.1.length, T1 := [(Ob.mk 3 (r10.1.map (eOTRat 0 1)) .live :: (r10.2.map (poolO .live 1 eI)))], rr := ii, rrc := [.rn (Ob.mk 3 (r10.1.map (eOTRat 31 1)) .live :: (r10.2.map (poolO .live 1 eI)))], rds := [], sc := true }, true), nt], .reg [nt, (.call { mv := [], rc := [], ac := [ii], r := .osl 0 0 0 r12.length, T1 := [[Ob.mk 1 (r12.map eI) .live]], rr := ii, rrc := [.pure], rds := [], sc := true }, true), nt]] : List TE);
    have o7 := o5.app (.c h7 (.c ((rn_cons (rn_es (tgt := (backL [.row 19])) (f' := eTJoint) (show (r8.1.map eTJoint) = (r8.1.map eTJoint) from rfl) (fun x => (nr_rn eTJoint_nr) x)) (rn_cons (rn_es (tgt := (backL [.row 19])) (f' := eTMember) (show (r8.2.map eTMember) = (r8.2.map eTMember) from rfl) (fun x => (nr_rn eTMember_nr) x)) rn_nil)) : [Ob.mk 4 (r8.1.map eTJoint) .live, Ob.mk 3 (r8.2.map eTMember) .live] = List.map (rnO (backL [.row 19])) [Ob.mk 4 (r8.1.map eTJoint) .live, Ob.mk 3 (r8.2.map eTMember) .live]) (.c ((live_cons rfl (live_cons rfl live_nil)) : LiveR [Ob.mk 4 (r8.1.map eTJoint) .live, Ob.mk 3 (r8.2.map eTMember) .live]) (.c (laws_toStructure_o_ok v_aS r8 h9) (.c (Sc.agg (sc_cons (Sc.osl _ _ _ _ : Sc (.osl 0 0 0 r8.1.length)) (sc_cons (Sc.osl _ _ _ _ : Sc (.osl 0 1 0 r8.2.length)) sc_nil)) : Sc (.agg [.osl 0 0 0 r8.1.length, .osl 0 1 0 r8.2.length])) (.c ((scT_cons (scR_cons (scO_es eTJoint_sc) (scR_cons (scO_es eTMember_sc) scR_nil)) scT_nil) : ScT [[Ob.mk 4 (r8.1.map eTJoint) .live, Ob.mk 3 (r8.2.map eTMember) .live]]) (.c ((rn_cons (rn_es (tgt := (backL [.row 21])) (f' := (eOTRat 21 1)) (show (r10.1.map (eOTRat 0 1)) = (r10.1.map (eOTRat 0 1)) from rfl) (fun x => (eOTRat_rn (rfl : (backL [.row 21]) 0 = some 21)) x)) (rn_pool (tgt := (backL [.row 21])) (show (r10.2.map (poolO .live 1 eI)) = (r10.2.map (poolO .live 1 eI)) from rfl) (fun x => (nr_rn eI_nr) x))) : (Ob.mk 3 (r10.1.map (eOTRat 21 1)) .live :: (r10.2.map (poolO .live 1 eI))) = List.map (rnO (backL [.row 21])) (Ob.mk 3 (r10.1.map (eOTRat 0 1)) .live :: (r10.2.map (poolO .live 1 eI)))) (.c ((live_cons rfl (live_pool (show (r10.2.map (poolO .live 1 eI)) = (r10.2.map (poolO .live 1 eI)) from rfl))) : LiveR (Ob.mk 3 (r10.1.map (eOTRat 0 1)) .live :: (r10.2.map (poolO .live 1 eI)))) (.c (laws_toRatS_o_ok v_aQ r10 h11) (.c (Sc.osl _ _ _ _ : Sc (.osl 0 0 0 r10.1.length)) (.c ((scT_cons (scR_cons (scO_es (eOTRat_sc _ _)) (scR_pool eI_sc)) scT_nil) : ScT [(Ob.mk 3 (r10.1.map (eOTRat 0 1)) .live :: (r10.2.map (poolO .live 1 eI)))]) (.c (pure_live eI_pure r12 : PureLive [Ob.mk 1 (r12.map eI) .live]) (.c (laws_toIntS_o_ok v_aW r12 h13) (.c (Sc.osl _ _ _ _ : Sc (.osl 0 0 0 r12.length)) (.c ((scT_cons (scR_cons (scO_es eI_sc) scR_nil) scT_nil) : ScT [[Ob.mk 1 (r12.map eI) .live]]) (.c (snap_full (show (r8.1.map eTJoint) = (r8.1.map eTJoint) from rfl) (show r8.1.length = r8.1.length from rfl)) (.c (fit_full (show (r8.1.map eTJoint) = (r8.1.map eTJoint) from rfl) (show r8.1.length = r8.1.length from rfl)) (.c (pure_map eTJoint_pure r8.1) (.c (snap_full (show (r8.2.map eTMember) = (r8.2.map eTMember) from rfl) (show r8.2.length = r8.2.length from rfl)) (.c (fit_full (show (r8.2.map eTMember) = (r8.2.map eTMember) from rfl) (show r8.2.length = r8.2.length from rfl)) (.c (pure_map eTMember_pure r8.2) (.c (rfl : obIn (some (Ob.mk 3 (r10.1.map (eOTRat 21 1)) .frz :: (frzRow (r10.2.map (poolO .live 1 eI))))) 0 = some (Ob.mk 3 (r10.1.map (eOTRat 21 1)) .frz)) (.c (rfl : _ = true) (.c (fit_full (show (r10.1.map (eOTRat 21 1)) = (r10.1.map (eOTRat 21 1)) from rfl) (show r10.1.length = r10.1.length from rfl)) (.c (pure_map eTRat_pure (r10.1.map (vwOTRat r10.2))) (.c (dv_map (rp := 21) (prow := [Ob.mk 3 (r10.1.map (eOTRat 21 1)) .frz] ++ (frzRow (r10.2.map (poolO .live 1 eI)))) (al := isFrz) (sz := 3) (g := eTRat) (show (r10.1.map (eOTRat 21 1)) = (r10.1.map (eOTRat 21 1)) from rfl) (fun _ => rfl) (fun x hx => (dvOTRat (rp := 21) (c := 1) (al := isFrz) (heads := [Ob.mk 3 (r10.1.map (eOTRat 21 1)) .frz]) (pl_frz (show (r10.2.map (poolO .live 1 eI)) = (r10.2.map (poolO .live 1 eI)) from rfl)) rfl kf rfl (all_in h14 x hx))) (show r10.1.length = r10.1.length from rfl)) (.c (snap_full (show (r12.map eI) = (r12.map eI) from rfl) (show r12.length = r12.length from rfl)) (.c (fit_full (show (r12.map eI) = (r12.map eI) from rfl) (show r12.length = r12.length from rfl)) (.c (pure_map eI_pure r12) (.c (spec_OverloadedMembers_ok (⟨r8.1, r8.2⟩ : TStructure) (r10.1.map (vwOTRat r10.2)) r12 r15 h16) (.c ((rn_cons (rn_es (tgt := (backL [.row 27])) (f' := eTJoint) (show (r8.1.map eTJoint) = (r8.1.map eTJoint) from rfl) (fun x => (nr_rn eTJoint_nr) x)) (rn_cons (rn_es (tgt := (backL [.row 27])) (f' := eTMember) (show (r8.2.map eTMember) = (r8.2.map eTMember) from rfl) (fun x => (nr_rn eTMember_nr) x)) rn_nil)) : [Ob.mk 4 (r8.1.map eTJoint) .live, Ob.mk 3 (r8.2.map eTMember) .live] = List.map (rnO (backL [.row 27])) [Ob.mk 4 (r8.1.map eTJoint) .live, Ob.mk 3 (r8.2.map eTMember) .live]) (.c ((live_cons rfl (live_cons rfl live_nil)) : LiveR [Ob.mk 4 (r8.1.map eTJoint) .live, Ob.mk 3 (r8.2.map eTMember) .live]) (.c (laws_toStructure_o_ok v_aS r8 h9) (.c (Sc.agg (sc_cons (Sc.osl _ _ _ _ : Sc (.osl 0 0 0 r8.1.length)) (sc_cons (Sc.osl _ _ _ _ : Sc (.osl 0 1 0 r8.2.length)) sc_nil)) : Sc (.agg [.osl 0 0 0 r8.1.length, .osl 0 1 0 r8.2.length])) (.c ((scT_cons (scR_cons (scO_es eTJoint_sc) (scR_cons (scO_es eTMember_sc) scR_nil)) scT_nil) : ScT [[Ob.mk 4 (r8.1.map eTJoint) .live, Ob.mk 3 (r8.2.map eTMember) .live]]) (.c ((rn_cons (rn_es (tgt := (backL [.row 31])) (f' := (eOTRat 31 1)) (show (r10.1.map (eOTRat 0 1)) = (r10.1.map (eOTRat 0 1)) from rfl) (fun x => (eOTRat_rn (rfl : (backL [.row 31]) 0 = some 31)) x)) (rn_pool (tgt := (backL [.row 31])) (show (r10.2.map (poolO .live 1 eI)) = (r10.2.map (poolO .live 1 eI)) from rfl) (fun x => (nr_rn eI_nr) x))) : (Ob.mk 3 (r10.1.map (eOTRat 31 1)) .live :: (r10.2.map (poolO .live 1 eI))) = List.map (rnO (backL [.row 31])) (Ob.mk 3 (r10.1.map (eOTRat 0 1)) .live :: (r10.2.map (poolO .live 1 eI)))) (.c ((live_cons rfl (live_pool (show (r10.2.map (poolO .live 1 eI)) = (r10.2.map (poolO .live 1 eI)) from rfl))) : LiveR (Ob.mk 3 (r10.1.map (eOTRat 0 1)) .live :: (r10.2.map (poolO .live 1 eI)))) (.c (laws_toRatS_o_ok v_aQ r10 h11) (.c (Sc.osl _ _ _ _ : Sc (.osl 0 0 0 r10.1.length)) (.c ((scT_cons (scR_cons (scO_es (eOTRat_sc _ _)) (scR_pool eI_sc)) scT_nil) : ScT [(Ob.mk 3 (r10.1.map (eOTRat 0 1)) .live :: (r10.2.map (poolO .live 1 eI)))]) (.c (pure_live eI_pure r12 : PureLive [Ob.mk 1 (r12.map eI) .live]) (.c (laws_toIntS_o_ok v_aW r12 h13) (.c (Sc.osl _ _ _ _ : Sc (.osl 0 0 0 r12.length)) (.c ((scT_cons (scR_cons (scO_es eI_sc) scR_nil) scT_nil) : ScT [[Ob.mk 1 (r12.map eI) .live]]) .nil))))))))))))))))))))))))))))))))))))))))))));
    (by
    rcases r17 with a19 | a19
    · exact (.bnd fun r20 h21 =>
    (let t8 : List TE := t6 ++ ([.reg [nt, nt, nt, (.call { mv := [], rc := [], ac := [.c1 (.agg [.sl (r8.1.map eTJoint), .sl (r8.2.map eTMember)]), .c1 (.c0 (.view 31 (Ob.mk 3 (r10.1.map (eOTRat 31 1)) .live) ((r10.1.map (vwOTRat r10.2)).map eTRat))), .c1 (.c0 (.sl (r12.map eI)))], r := .osl 0 0 0 a19.length, T1 := [[Ob.mk 1 (a19.map eI) .live]], rr := ii, rrc := [.pure], rds := [27, 31, 34], sc := true }, true), nt], .reg [nt, nt, (.call { ac := [.c1 (.c0 (.sl (a19.map eI))), ii], rds := [39], r := .b r20, sc := true }, true), nt]] : List TE);
    have o9 := o7.app (.c (snap_full (show (r8.1.map eTJoint) = (r8.1.map eTJoint) from rfl) (show r8.1.length = r8.1.length from rfl)) (.c (fit_full (show (r8.1.map eTJoint) = (r8.1.map eTJoint) from rfl) (show r8.1.length = r8.1.length from rfl)) (.c (pure_map eTJoint_pure r8.1) (.c (snap_full (show (r8.2.map eTMember) = (r8.2.map eTMember) from rfl) (show r8.2.length = r8.2.length from rfl)) (.c (fit_full (show (r8.2.map eTMember) = (r8.2.map eTMember) from rfl) (show r8.2.length = r8.2.length from rfl)) (.c (pure_map eTMember_pure r8.2) (.c (rfl : obIn (some (Ob.mk 3 (r10.1.map (eOTRat 31 1)) .live :: (r10.2.map (poolO .live 1 eI)))) 0 = some (Ob.mk 3 (r10.1.map (eOTRat 31 1)) .live)) (.c (rfl : _ = true) (.c (fit_full (show (r10.1.map (eOTRat 31 1)) = (r10.1.map (eOTRat 31 1)) from rfl) (show r10.1.length = r10.1.length from rfl)) (.c (pure_map eTRat_pure (r10.1.map (vwOTRat r10.2))) (.c (dv_map (rp := 31) (prow := [Ob.mk 3 (r10.1.map (eOTRat 31 1)) .live] ++ (r10.2.map (poolO .live 1 eI))) (al := isAny) (sz := 3) (g := eTRat) (show (r10.1.map (eOTRat 31 1)) = (r10.1.map (eOTRat 31 1)) from rfl) (fun _ => rfl) (fun x hx => (dvOTRat (rp := 31) (c := 1) (al := isAny) (heads := [Ob.mk 3 (r10.1.map (eOTRat 31 1)) .live]) (show (r10.2.map (poolO .live 1 eI)) = (r10.2.map (poolO .live 1 eI)) from rfl) rfl kl rfl (all_in h14 x hx))) (show r10.1.length = r10.1.length from rfl)) (.c (snap_full (show (r12.map eI) = (r12.map eI) from rfl) (show r12.length = r12.length from rfl)) (.c (fit_full (show (r12.map eI) = (r12.map eI) from rfl) (show r12.length = r12.length from rfl)) (.c (pure_map eI_pure r12) (.c (pure_live eI_pure a19 : PureLive [Ob.mk 1 (a19.map eI) .live]) (.c (impl_OverloadedMembers_o_ok (⟨r8.1, r8.2⟩ : TStructure) (r10.1.map (vwOTRat r10.2)) r12 (.inl a19) h18) (.c (Sc.osl _ _ _ _ : Sc (.osl 0 0 0 a19.length)) (.c ((scT_cons (scR_cons (scO_es eI_sc) scR_nil) scT_nil) : ScT [[Ob.mk 1 (a19.map eI) .live]]) (.c (snap_full (show (a19.map eI) = (a19.map eI) from rfl) (show a19.length = a19.length from rfl)) (.c (fit_full (show (a19.map eI) = (a19.map eI) from rfl) (show a19.length = a19.length from rfl)) (.c (pure_map eI_pure a19) (.c (laws_eqIntS_ok a19 r15 r20 h21) (.c (Sc.b _ : Sc (.b r20)) .nil)))))))))))))))))))))));
    .ite (fun h22 =>
    .bnd fun r23 h24 =>
    (let t10 : List TE := t8 ++ ([.br false, .reg [nt, nt, (.call { mv := [], rc := [], ac := [ii], r := .agg [.osl 0 0 0 r8.1.length, .osl 0 1 0 r8.2.length], T1 := [[Ob.mk 4 (r8.1.map eTJoint) .live, Ob.mk 3 (r8.2.map eTMember) .live]], rr := .c1 (.agg [.id, .id]), rrc := [.rn [Ob.mk 4 (r8.1.map eTJoint) .live, Ob.mk 3 (r8.2.map eTMember) .live]], rds := [], sc := true }, true), (.call { ac := [.c1 (.agg [.sl (r8.1.map eTJoint), .sl (r8.2.map eTMember)]), .c1 (.agg [.sl (r8.1.map eTJoint), .sl (r8.2.map eTMember)])], rds := [27, 47], r := .b r23, sc := true }, true), nt]] : List TE);
    have o11 := o9.app (.c (not_t h22) (.c ((rn_cons (rn_es (tgt := (backL [.row 47])) (f' := eTJoint) (show (r8.1.map eTJoint) = (r8.1.map eTJoint) from rfl) (fun x => (nr_rn eTJoint_nr) x)) (rn_cons (rn_es (tgt := (backL [.row 47])) (f' := eTMember) (show (r8.2.map eTMember) = (r8.2.map eTMember) from rfl) (fun x => (nr_rn eTMember_nr) x)) rn_nil)) : [Ob.mk 4 (r8.1.map eTJoint) .live, Ob.mk 3 (r8.2.map eTMember) .live] = List.map (rnO (backL [.row 47])) [Ob.mk 4 (r8.1.map eTJoint) .live, Ob.mk 3 (r8.2.map eTMember) .live]) (.c ((live_cons rfl (live_cons rfl live_nil)) : LiveR [Ob.mk 4 (r8.1.map eTJoint) .live, Ob.mk 3 (r8.2.map eTMember) .live]) (.c (laws_toStructure_o_ok v_aS r8 h9) (.c (Sc.agg (sc_cons (Sc.osl _ _ _ _ : Sc (.osl 0 0 0 r8.1.length)) (sc_cons (Sc.osl _ _ _ _ : Sc (.osl 0 1 0 r8.2.length)) sc_nil)) : Sc (.agg [.osl 0 0 0 r8.1.length, .osl 0 1 0 r8.2.length])) (.c ((scT_cons (scR_cons (scO_es eTJoint_sc) (scR_cons (scO_es eTMember_sc) scR_nil)) scT_nil) : ScT [[Ob.mk 4 (r8.1.map eTJoint) .live, Ob.mk 3 (r8.2.map eTMember) .live]]) (.c (snap_full (show (r8.1.map eTJoint) = (r8.1.map eTJoint) from rfl) (show r8.1.length = r8.1.length from rfl)) (.c (fit_full (show (r8.1.map eTJoint) = (r8.1.map eTJoint) from rfl) (show r8.1.length = r8.1.length from rfl)) (.c (pure_map eTJoint_pure r8.1) (.c (snap_full (show (r8.2.map eTMember) = (r8.2.map eTMember) from rfl) (show r8.2.length = r8.2.length from rfl)) (.c (fit_full (show (r8.2.map eTMember) = (r8.2.map eTMember) from rfl) (show r8.2.length = r8.2.length from rfl)) (.c (pure_map eTMember_pure r8.2) (.c (snap_full (show (r8.1.map eTJoint) = (r8.1.map eTJoint) from rfl) (show r8.1.length = r8.1.length from rfl)) (.c (fit_full (show (r8.1.map eTJoint) = (r8.1.map eTJoint) from rfl) (show r8.1.length = r8.1.length from rfl)) (.c (pure_map eTJoint_pure r8.1) (.c (snap_full (show (r8.2.map eTMember) = (r8.2.map eTMember) from rfl) (show r8.2.length = r8.2.length from rfl)) (.c (fit_full (show (r8.2.map eTMember) = (r8.2.map eTMember) from rfl) (show r8.2.length = r8.2.length from rfl)) (.c (pure_map eTMember_pure r8.2) (.c (laws_eqStructure_ok (⟨r8.1, r8.2⟩ : TStructure) (⟨r8.1, r8.2⟩ : TStructure) r23 h24) (.c (Sc.b _ : Sc (.b r23)) .nil))))))))))))))))))));
    .ite (fun h25 =>
    .bnd fun r26 h27 =>
    (let t12 : List TE := t10 ++ ([.br false, .reg [nt, nt, (.call { mv := [], rc := [], ac := [ii], r := .osl 0 0 0 r10.1.length, T1 := [(Ob.mk 3 (r10.1.map (eOTRat 0 1)) .live :: (r10.2.map (poolO .live 1 eI)))], rr := ii, rrc := [.rn (Ob.mk 3 (r10.1.map (eOTRat 52 1)) .live :: (r10.2.map (poolO .live 1 eI)))], rds := [], sc := true }, true), (.call { ac := [.c1 (.c0 (.view 31 (Ob.mk 3 (r10.1.map (eOTRat 31 1)) .live) ((r10.1.map (vwOTRat r10.2)).map eTRat))), .c1 (.c0 (.view 52 (Ob.mk 3 (r10.1.map (eOTRat 52 1)) .live) ((r10.1.map (vwOTRat r10.2)).map eTRat)))], rds := [31, 52], r := .b r26, sc := true }, true), nt]] : List TE);
    have o13 := o11.app (.c (not_t h25) (.c ((rn_cons (rn_es (tgt := (backL [.row 52])) (f' := (eOTRat 52 1)) (show (r10.1.map (eOTRat 0 1)) = (r10.1.map (eOTRat 0 1)) from rfl) (fun x => (eOTRat_rn (rfl : (backL [.row 52]) 0 = some 52)) x)) (rn_pool (tgt := (backL [.row 52])) (show (r10.2.map (poolO .live 1 eI)) = (r10.2.map (poolO .live 1 eI)) from rfl) (fun x => (nr_rn eI_nr) x))) : (Ob.mk 3 (r10.1.map (eOTRat 52 1)) .live :: (r10.2.map (poolO .live 1 eI))) = List.map (rnO (backL [.row 52])) (Ob.mk 3 (r10.1.map (eOTRat 0 1)) .live :: (r10.2.map (poolO .live 1 eI)))) (.c ((live_cons rfl (live_pool (show (r10.2.map (poolO .live 1 eI)) = (r10.2.map (poolO .live 1 eI)) from rfl))) : LiveR (Ob.mk 3 (r10.1.map (eOTRat 0 1)) .live :: (r10.2.map (poolO .live 1 eI)))) (.c (laws_toRatS_o_ok v_aQ r10 h11) (.c (Sc.osl _ _ _ _ : Sc (.osl 0 0 0 r10.1.length)) (.c ((scT_cons (scR_cons (scO_es (eOTRat_sc _ _)) (scR_pool eI_sc)) scT_nil) : ScT [(Ob.mk 3 (r10.1.map (eOTRat 0 1)) .live :: (r10.2.map (poolO .live 1 eI)))]) (.c (rfl : obIn (some (Ob.mk 3 (r10.1.map (eOTRat 31 1)) .live :: (r10.2.map (poolO .live 1 eI)))) 0 = some (Ob.mk 3 (r10.1.map (eOTRat 31 1)) .live)) (.c (rfl : _ = true) (.c (fit_full (show (r10.1.map (eOTRat 31 1)) = (r10.1.map (eOTRat 31 1)) from rfl) (show r10.1.length = r10.1.length from rfl)) (.c (pure_map eTRat_pure (r10.1.map (vwOTRat r10.2))) (.c (dv_map (rp := 31) (prow := [Ob.mk 3 (r10.1.map (eOTRat 31 1)) .live] ++ (r10.2.map (poolO .live 1 eI))) (al := isAny) (sz := 3) (g := eTRat) (show (r10.1.map (eOTRat 31 1)) = (r10.1.map (eOTRat 31 1)) from rfl) (fun _ => rfl) (fun x hx => (dvOTRat (rp := 31) (c := 1) (al := isAny) (heads := [Ob.mk 3 (r10.1.map (eOTRat 31 1)) .live]) (show (r10.2.map (poolO .live 1 eI)) = (r10.2.map (poolO .live 1 eI)) from rfl) rfl kl rfl (all_in h14 x hx))) (show r10.1.length = r10.1.length from rfl)) (.c (rfl : obIn (some (Ob.mk 3 (r10.1.map (eOTRat 52 1)) .live :: (r10.2.map (poolO .live 1 eI)))) 0 = some (Ob.mk 3 (r10.1.map (eOTRat 52 1)) .live)) (.c (rfl : _ = true) (.c (fit_full (show (r10.1.map (eOTRat 52 1)) = (r10.1.map (eOTRat 52 1)) from rfl) (show r10.1.length = r10.1.length from rfl)) (.c (pure_map eTRat_pure (r10.1.map (vwOTRat r10.2))) (.c (dv_map (rp := 52) (prow := [Ob.mk 3 (r10.1.map (eOTRat 52 1)) .live] ++ (r10.2.map (poolO .live 1 eI))) (al := isAny) (sz := 3) (g := eTRat) (show (r10.1.map (eOTRat 52 1)) = (r10.1.map (eOTRat 52 1)) from rfl) (fun _ => rfl) (fun x hx => (dvOTRat (rp := 52) (c := 1) (al := isAny) (heads := [Ob.mk 3 (r10.1.map (eOTRat 52 1)) .live]) (show (r10.2.map (poolO .live 1 eI)) = (r10.2.map (poolO .live 1 eI)) from rfl) rfl kl rfl (all_in h14 x hx))) (show r10.1.length = r10.1.length from rfl)) (.c (laws_eqRatS_ok (r10.1.map (vwOTRat r10.2)) (r10.1.map (vwOTRat r10.2)) r26 h27) (.c (Sc.b _ : Sc (.b r26)) .nil))))))))))))))))));
    .ite (fun h28 =>
    .bnd fun r29 h30 =>
    (let t14 : List TE := t12 ++ ([.br false, .reg [nt, nt, (.call { mv := [], rc := [], ac := [ii], r := .osl 0 0 0 r12.length, T1 := [[Ob.mk 1 (r12.map eI) .live]], rr := ii, rrc := [.pure], rds := [], sc := true }, true), (.call { ac := [.c1 (.c0 (.sl (r12.map eI))), .c1 (.c0 (.sl (r12.map eI)))], rds := [34, 57], r := .b r29, sc := true }, true), nt]] : List TE);
    have o15 := o13.app (.c (not_t h28) (.c (pure_live eI_pure r12 : PureLive [Ob.mk 1 (r12.map eI) .live]) (.c (laws_toIntS_o_ok v_aW r12 h13) (.c (Sc.osl _ _ _ _ : Sc (.osl 0 0 0 r12.length)) (.c ((scT_cons (scR_cons (scO_es eI_sc) scR_nil) scT_nil) : ScT [[Ob.mk 1 (r12.map eI) .live]]) (.c (snap_full (show (r12.map eI) = (r12.map eI) from rfl) (show r12.length = r12.length from rfl)) (.c (fit_full (show (r12.map eI) = (r12.map eI) from rfl) (show r12.length = r12.length from rfl)) (.c (pure_map eI_pure r12) (.c (snap_full (show (r12.map eI) = (r12.map eI) from rfl) (show r12.length = r12.length from rfl)) (.c (fit_full (show (r12.map eI) = (r12.map eI) from rfl) (show r12.length = r12.length from rfl)) (.c (pure_map eI_pure r12) (.c (laws_eqIntS_ok r12 r12 r29 h30) (.c (Sc.b _ : Sc (.b r29)) .nil)))))))))))));
    .ite (fun h31 =>
    .bnd fun r32 h33 =>
    .bnd fun r34 h35 =>
    .bnd fun r36 h37 =>
    (let t16 : List TE := t14 ++ ([.br false, .reg [nt], .reg [nt, nt, (.call { mv := [.ob 27 0 (Ob.mk 4 (r8.1.map eTJoint) .live), .ob 27 1 (Ob.mk 3 (r8.2.map eTMember) .live)], rc := [.pure, .pure], ac := [.c1 (.agg [.at_ 0 0 r8.1.length, .at_ 1 0 r8.2.length]), ii], r := .n .i64 r32.1, T1 := [[Ob.mk 4 (r32.2.1.map eTJoint) .live], [Ob.mk 3 (r32.2.2.map eTMember) .live]], rr := ii, rrc := [.pure, .pure], rds := [27], sc := false }, true), nt], .reg [nt, nt, (.call { mv := [.row 31], rc := [.rn (Ob.mk 3 (r10.1.map (eOTRat 0 1)) .live :: (r10.2.map (poolO .live 1 eI)))], ac := [ii, ii], r := .n .i64 r34.1, T1 := [(Ob.mk 3 (r34.2.1.map (eOTRat 0 1)) .live :: (r34.2.2.map (poolO .live 1 eI)))], rr := ii, rrc := [.rn (Ob.mk 3 (r34.2.1.map (eOTRat 31 1)) .live :: (r34.2.2.map (poolO .live 1 eI)))], rds := [31], sc := false }, true), nt], .reg [nt, nt, (.call { mv := [.row 34], rc := [.pure], ac := [ii, ii], r := .n .i64 r36.1, T1 := [[Ob.mk 1 (r36.2.map eI) .live]], rr := ii, rrc := [.pure], rds := [34], sc := false }, true), nt]] : List TE);
    have o17 := o15.app (.c (not_t h31) (.c (by decide : 0 ≠ 1) (.c (rfl : mvL [.ob 27 0 (Ob.mk 4 (r8.1.map eTJoint) .live), .ob 27 1 (Ob.mk 3 (r8.2.map eTMember) .live)] 0 0 = some (27, 0)) (.c (rfl : r8.1.length = r8.1.length) (.c (rfl : mvL [.ob 27 0 (Ob.mk 4 (r8.1.map eTJoint) .live), .ob 27 1 (Ob.mk 3 (r8.2.map eTMember) .live)] 1 0 = some (27, 1)) (.c (rfl : r8.2.length = r8.2.length) (.c (rfl : obIn (some [Ob.mk 4 (r8.1.map eTJoint) .live, Ob.mk 3 (r8.2.map eTMember) .live]) 0 = some (Ob.mk 4 (r8.1.map eTJoint) .live)) (.c (pure_live eTJoint_pure r8.1 : PureLive [Ob.mk 4 (r8.1.map eTJoint) .live]) (.c (rfl : obIn (some [Ob.mk 4 (r8.1.map eTJoint) .live, Ob.mk 3 (r8.2.map eTMember) .live]) 1 = some (Ob.mk 3 (r8.2.map eTMember) .live)) (.c (pure_live eTMember_pure r8.2 : PureLive [Ob.mk 3 (r8.2.map eTMember) .live]) (.c (pure_live eTJoint_pure r32.2.1 : PureLive [Ob.mk 4 (r32.2.1.map eTJoint) .live]) (.c (pure_live eTMember_pure r32.2.2 : PureLive [Ob.mk 3 (r32.2.2.map eTMember) .live]) (.c (laws_markStructure_o_ok 1 r8.1 r8.2 r32 h33) (.c ((rn_cons (rn_es (tgt := (tgtL 0 [.row 31])) (f' := (eOTRat 0 1)) (show (r10.1.map (eOTRat 31 1)) = (r10.1.map (eOTRat 31 1)) from rfl) (fun x => (eOTRat_rn (rfl : (tgtL 0 [.row 31]) 31 = some 0)) x)) (rn_pool (tgt := (tgtL 0 [.row 31])) (show (r10.2.map (poolO .live 1 eI)) = (r10.2.map (poolO .live 1 eI)) from rfl) (fun x => (nr_rn eI_nr) x))) : (Ob.mk 3 (r10.1.map (eOTRat 0 1)) .live :: (r10.2.map (poolO .live 1 eI))) = List.map (rnO (tgtL 0 [.row 31])) (Ob.mk 3 (r10.1.map (eOTRat 31 1)) .live :: (r10.2.map (poolO .live 1 eI)))) (.c ((live_cons rfl (live_pool (show (r10.2.map (poolO .live 1 eI)) = (r10.2.map (poolO .live 1 eI)) from rfl))) : LiveR (Ob.mk 3 (r10.1.map (eOTRat 31 1)) .live :: (r10.2.map (poolO .live 1 eI)))) (.c ((rn_cons (rn_es (tgt := (backL [.row 31])) (f' := (eOTRat 31 1)) (show (r34.2.1.map (eOTRat 0 1)) = (r34.2.1.map (eOTRat 0 1)) from rfl) (fun x => (eOTRat_rn (rfl : (backL [.row 31]) 0 = some 31)) x)) (rn_pool (tgt := (backL [.row 31])) (show (r34.2.2.map (poolO .live 1 eI)) = (r34.2.2.map (poolO .live 1 eI)) from rfl) (fun x => (nr_rn eI_nr) x))) : (Ob.mk 3 (r34.2.1.map (eOTRat 31 1)) .live :: (r34.2.2.map (poolO .live 1 eI))) = List.map (rnO (backL [.row 31])) (Ob.mk 3 (r34.2.1.map (eOTRat 0 1)) .live :: (r34.2.2.map (poolO .live 1 eI)))) (.c ((live_cons rfl (live_pool (show (r34.2.2.map (poolO .live 1 eI)) = (r34.2.2.map (poolO .live 1 eI)) from rfl))) : LiveR (Ob.mk 3 (r34.2.1.map (eOTRat 0 1)) .live :: (r34.2.2.map (poolO .live 1 eI)))) (.c (laws_markRatS_o_ok r32.1 r10.1 r10.2 r34 h35) (.c (pure_live eI_pure r12 : PureLive [Ob.mk 1 (r12.map eI) .live]) (.c (pure_live eI_pure r36.2 : PureLive [Ob.mk 1 (r36.2.map eI) .live]) (.c (laws_markIntS_o'_ok r34.1 r12 r36 h37) .nil)))))))))))))))))))));
    .ite (fun h38 =>
    .ret (runF_con0 hmix (tape := t16 ++ ([.reg [nt, nt, nt, nf, nf, nf, nf, (.br true, true)], .br true, .reg [nt]] : List TE)) (rr := ii) (by kernel_rfl) (o17.app (.c h38 (.c h38 (.c h38 (.c h38 (.c h38 (.c (rfl : true = true) .nil)))))))))
    (fun h38 =>
    .bnd fun r39 h40 =>
    .grd fun h41 =>
    .bnd fun r42 h43 =>
    (let t18 : List TE := t16 ++ ([.reg [nt, nt, nt, nt, nt, (.call { ac := [.c1 (.c0 (.sl (a19.map eI))), ii], rds := [39], r := .b r20, sc := true }, true), nt, (.br false, true)], .br false, .reg [nt], .reg [nt, nt, (.call { mv := [.row 39], rc := [.pure], ac := [ii, ii], r := .n .i64 r39.1, T1 := [[Ob.mk 1 (r39.2.map eI) .live]], rr := ii, rrc := [.pure], rds := [39], sc := false }, true), nt], .reg [nt], .reg [nt, nt, (.call { ac := [.c1 (.c0 (.sl (((r39.2.drop 0).take a19.length).map eI))), ii], rds := [39], r := .n .i64 r42, sc := true }, true), nt], .reg [nt, nt]] : List TE);
    have o19 := o17.app (.c h38 (.c h38 (.c h38 (.c (snap_full (show (a19.map eI) = (a19.map eI) from rfl) (show a19.length = a19.length from rfl)) (.c (fit_full (show (a19.map eI) = (a19.map eI) from rfl) (show a19.length = a19.length from rfl)) (.c (pure_map eI_pure a19) (.c (laws_eqIntS_ok a19 r15 r20 h21) (.c (Sc.b _ : Sc (.b r20)) (.c h38 (.c h38 (.c (not_t h22) (.c (pure_live eI_pure a19 : PureLive [Ob.mk 1 (a19.map eI) .live]) (.c (pure_live eI_pure r39.2 : PureLive [Ob.mk 1 (r39.2.map eI) .live]) (.c (laws_markIntS_o'_ok 1 a19 r39 h40) (.c (snap_prf (show (r39.2.map eI) = (r39.2.map eI) from rfl) 0 a19.length) (.c (fit_prf (show (r39.2.map eI) = (r39.2.map eI) from rfl) h41) (.c (pure_map eI_pure ((r39.2.drop 0).take a19.length)) (.c (laws_heldIntS_ok ((r39.2.drop 0).take a19.length) 1 r42 h43) (.c (Sc.n _ _ : Sc (.n .i64 r42)) .nil)))))))))))))))))));
    .ite (fun h44 =>
    .ret (runF_con0 hmix (tape := t18 ++ ([.br true, .reg [nt]] : List TE)) (rr := ii) (by kernel_rfl) (o19.app (.c h44 .nil))))
    (fun h44 =>
    (let t20 : List TE := t18 ++ ([.br false, .reg [nt, nt, nt]] : List TE);
    .ite (fun h45 =>
    .ret (runF_con0 hmix (tape := t20 ++ ([.br true, .reg [nt]] : List TE)) (rr := ii) (by kernel_rfl) (o19.app (.c h44 (.c h45 .nil)))))
    (fun h45 =>
    .ret (runF_con0 hmix (tape := t20 ++ ([.br false, .reg [nt, (.call { mv := [], rc := [], ac := [ii], r := .agg [.osl 0 0 0 r8.1.length, .osl 0 1 0 r8.2.length], T1 := [[Ob.mk 4 (r8.1.map eTJoint) .live, Ob.mk 3 (r8.2.map eTMember) .live]], rr := .c1 (.agg [.id, .id]), rrc := [.rn [Ob.mk 4 (r8.1.map eTJoint) .live, Ob.mk 3 (r8.2.map eTMember) .live]], rds := [], sc := true }, true), nt, (.call { mv := [], rc := [], ac := [ii], r := .osl 0 0 0 r10.1.length, T1 := [(Ob.mk 3 (r10.1.map (eOTRat 0 1)) .live :: (r10.2.map (poolO .live 1 eI)))], rr := ii, rrc := [.rn (Ob.mk 3 (r10.1.map (eOTRat 99 1)) .live :: (r10.2.map (poolO .live 1 eI)))], rds := [], sc := true }, true), nt, (.call { mv := [], rc := [], ac := [ii], r := .osl 0 0 0 r12.length, T1 := [[Ob.mk 1 (r12.map eI) .live]], rr := ii, rrc := [.pure], rds := [], sc := true }, true), (.call { mv := [], rc := [], ac := [.c1 (.agg [.sl (r8.1.map eTJoint), .sl (r8.2.map eTMember)]), .c1 (.c0 (.view 99 (Ob.mk 3 (r10.1.map (eOTRat 99 1)) .live) ((r10.1.map (vwOTRat r10.2)).map eTRat))), .c1 (.c0 (.sl (r12.map eI)))], r := .osl 0 0 0 a19.length, T1 := [[Ob.mk 1 (a19.map eI) .live]], rr := ii, rrc := [.pure], rds := [97, 99, 101], sc := true }, true), nt], .reg [nt, nt, (.call { ac := [.c1 (.c0 (.sl (a19.map eI))), ii], rds := [102], r := .b r20, sc := true }, true), nt], .br false, .reg [nt], .reg [nt, nt, (.call { ac := [.c1 (.c0 (.sl (((r39.2.drop 0).take a19.length).map eI))), ii], rds := [39], r := .n .i64 r42, sc := true }, true), nt], .reg [nt, nt], .br false, .reg [nt, nt, nt], .br false, .reg [nt]] : List TE)) (rr := ii) (by kernel_rfl) (o19.app (.c h44 (.c h45 (.c ((rn_cons (rn_es (tgt := (backL [.row 97])) (f' := eTJoint) (show (r8.1.map eTJoint) = (r8.1.map eTJoint) from rfl) (fun x => (nr_rn eTJoint_nr) x)) (rn_cons (rn_es (tgt := (backL [.row 97])) (f' := eTMember) (show (r8.2.map eTMember) = (r8.2.map eTMember) from rfl) (fun x => (nr_rn eTMember_nr) x)) rn_nil)) : [Ob.mk 4 (r8.1.map eTJoint) .live, Ob.mk 3 (r8.2.map eTMember) .live] = List.map (rnO (backL [.row 97])) [Ob.mk 4 (r8.1.map eTJoint) .live, Ob.mk 3 (r8.2.map eTMember) .live]) (.c ((live_cons rfl (live_cons rfl live_nil)) : LiveR [Ob.mk 4 (r8.1.map eTJoint) .live, Ob.mk 3 (r8.2.map eTMember) .live]) (.c (laws_toStructure_o_ok v_aS r8 h9) (.c (Sc.agg (sc_cons (Sc.osl _ _ _ _ : Sc (.osl 0 0 0 r8.1.length)) (sc_cons (Sc.osl _ _ _ _ : Sc (.osl 0 1 0 r8.2.length)) sc_nil)) : Sc (.agg [.osl 0 0 0 r8.1.length, .osl 0 1 0 r8.2.length])) (.c ((scT_cons (scR_cons (scO_es eTJoint_sc) (scR_cons (scO_es eTMember_sc) scR_nil)) scT_nil) : ScT [[Ob.mk 4 (r8.1.map eTJoint) .live, Ob.mk 3 (r8.2.map eTMember) .live]]) (.c ((rn_cons (rn_es (tgt := (backL [.row 99])) (f' := (eOTRat 99 1)) (show (r10.1.map (eOTRat 0 1)) = (r10.1.map (eOTRat 0 1)) from rfl) (fun x => (eOTRat_rn (rfl : (backL [.row 99]) 0 = some 99)) x)) (rn_pool (tgt := (backL [.row 99])) (show (r10.2.map (poolO .live 1 eI)) = (r10.2.map (poolO .live 1 eI)) from rfl) (fun x => (nr_rn eI_nr) x))) : (Ob.mk 3 (r10.1.map (eOTRat 99 1)) .live :: (r10.2.map (poolO .live 1 eI))) = List.map (rnO (backL [.row 99])) (Ob.mk 3 (r10.1.map (eOTRat 0 1)) .live :: (r10.2.map (poolO .live 1 eI)))) (.c ((live_cons rfl (live_pool (show (r10.2.map (poolO .live 1 eI)) = (r10.2.map (poolO .live 1 eI)) from rfl))) : LiveR (Ob.mk 3 (r10.1.map (eOTRat 0 1)) .live :: (r10.2.map (poolO .live 1 eI)))) (.c (laws_toRatS_o_ok v_aQ r10 h11) (.c (Sc.osl _ _ _ _ : Sc (.osl 0 0 0 r10.1.length)) (.c ((scT_cons (scR_cons (scO_es (eOTRat_sc _ _)) (scR_pool eI_sc)) scT_nil) : ScT [(Ob.mk 3 (r10.1.map (eOTRat 0 1)) .live :: (r10.2.map (poolO .live 1 eI)))]) (.c (pure_live eI_pure r12 : PureLive [Ob.mk 1 (r12.map eI) .live]) (.c (laws_toIntS_o_ok v_aW r12 h13) (.c (Sc.osl _ _ _ _ : Sc (.osl 0 0 0 r12.length)) (.c ((scT_cons (scR_cons (scO_es eI_sc) scR_nil) scT_nil) : ScT [[Ob.mk 1 (r12.map eI) .live]]) (.c (snap_full (show (r8.1.map eTJoint) = (r8.1.map eTJoint) from rfl) (show r8.1.length = r8.1.length from rfl)) (.c (fit_full (show (r8.1.map eTJoint) = (r8.1.map eTJoint) from rfl) (show r8.1.length = r8.1.length from rfl)) (.c (pure_map eTJoint_pure r8.1) (.c (snap_full (show (r8.2.map eTMember) = (r8.2.map eTMember) from rfl) (show r8.2.length = r8.2.length from rfl)) (.c (fit_full (show (r8.2.map eTMember) = (r8.2.map eTMember) from rfl) (show r8.2.length = r8.2.length from rfl)) (.c (pure_map eTMember_pure r8.2) (.c (rfl : obIn (some (Ob.mk 3 (r10.1.map (eOTRat 99 1)) .live :: (r10.2.map (poolO .live 1 eI)))) 0 = some (Ob.mk 3 (r10.1.map (eOTRat 99 1)) .live)) (.c (rfl : _ = true) (.c (fit_full (show (r10.1.map (eOTRat 99 1)) = (r10.1.map (eOTRat 99 1)) from rfl) (show r10.1.length = r10.1.length from rfl)) (.c (pure_map eTRat_pure (r10.1.map (vwOTRat r10.2))) (.c (dv_map (rp := 99) (prow := [Ob.mk 3 (r10.1.map (eOTRat 99 1)) .live] ++ (r10.2.map (poolO .live 1 eI))) (al := isAny) (sz := 3) (g := eTRat) (show (r10.1.map (eOTRat 99 1)) = (r10.1.map (eOTRat 99 1)) from rfl) (fun _ => rfl) (fun x hx => (dvOTRat (rp := 99) (c := 1) (al := isAny) (heads := [Ob.mk 3 (r10.1.map (eOTRat 99 1)) .live]) (show (r10.2.map (poolO .live 1 eI)) = (r10.2.map (poolO .live 1 eI)) from rfl) rfl kl rfl (all_in h14 x hx))) (show r10.1.length = r10.1.length from rfl)) (.c (snap_full (show (r12.map eI) = (r12.map eI) from rfl) (show r12.length = r12.length from rfl)) (.c (fit_full (show (r12.map eI) = (r12.map eI) from rfl) (show r12.length = r12.length from rfl)) (.c (pure_map eI_pure r12) (.c (pure_live eI_pure a19 : PureLive [Ob.mk 1 (a19.map eI) .live]) (.c (impl_OverloadedMembers_o_ok (⟨r8.1, r8.2⟩ : TStructure) (r10.1.map (vwOTRat r10.2)) r12 (.inl a19) h18) (.c (Sc.osl _ _ _ _ : Sc (.osl 0 0 0 a19.length)) (.c ((scT_cons (scR_cons (scO_es eI_sc) scR_nil) scT_nil) : ScT [[Ob.mk 1 (a19.map eI) .live]]) (.c (snap_full (show (a19.map eI) = (a19.map eI) from rfl) (show a19.length = a19.length from rfl)) (.c (fit_full (show (a19.map eI) = (a19.map eI) from rfl) (show a19.length = a19.length from rfl)) (.c (pure_map eI_pure a19) (.c (laws_eqIntS_ok a19 r15 r20 h21) (.c (Sc.b _ : Sc (.b r20)) (.c (not_t h22) (.c (snap_prf (show (r39.2.map eI) = (r39.2.map eI) from rfl) 0 a19.length) (.c (fit_prf (show (r39.2.map eI) = (r39.2.map eI) from rfl) h41) (.c (pure_map eI_pure ((r39.2.drop 0).take a19.length)) (.c (laws_heldIntS_ok ((r39.2.drop 0).take a19.length) 1 r42 h43) (.c (Sc.n _ _ : Sc (.n .i64 r42)) (.c h44 (.c h45 .nil))))))))))))))))))))))))))))))))))))))))))))))))))))))))
    (fun h31 =>
    .ret (runF_con0 hmix (tape := t14 ++ ([.br true, .reg [nt]] : List TE)) (rr := ii) (by kernel_rfl) (o15.app (.c (not_f h31) .nil))))))
    (fun h28 =>
    .ret (runF_con0 hmix (tape := t12 ++ ([.br true, .reg [nt]] : List TE)) (rr := ii) (by kernel_rfl) (o13.app (.c (not_f h28) .nil))))))
    (fun h25 =>
    .ret (runF_con0 hmix (tape := t10 ++ ([.br true, .reg [nt]] : List TE)) (rr := ii) (by kernel_rfl) (o11.app (.c (not_f h25) .nil))))))
    (fun h22 =>
    .ret (runF_con0 hmix (tape := t8 ++ ([.br true, .reg [nt]] : List TE)) (rr := ii) (by kernel_rfl) (o9.app (.c (not_f h22) .nil))))))
    · exact (.bnd fun r20 h21 =>
    (let t8 : List TE := t6 ++ ([.reg [nt, nt, nt, (.call { mv := [], rc := [], ac := [.c1 (.agg [.sl (r8.1.map eTJoint), .sl (r8.2.map eTMember)]), .c1 (.c0 (.view 31 (Ob.mk 3 (r10.1.map (eOTRat 31 1)) .live) ((r10.1.map (vwOTRat r10.2)).map eTRat))), .c1 (.c0 (.sl (r12.map eI)))], r := .nils, T1 := [], rr := ii, rrc := [], rds := [27, 31, 34], sc := true }, true), nt], .reg [nt, nt, (.call { ac := [.c1 (.c0 (.nl 1)), ii], r := .b r20, sc := true }, true), nt]] : List TE);
    have o9 := o7.app (.c (snap_full (show (r8.1.map eTJoint) = (r8.1.map eTJoint) from rfl) (show r8.1.length = r8.1.length from rfl)) (.c (fit_full (show (r8.1.map eTJoint) = (r8.1.map eTJoint) from rfl) (show r8.1.length = r8.1.length from rfl)) (.c (pure_map eTJoint_pure r8.1) (.c (snap_full (show (r8.2.map eTMember) = (r8.2.map eTMember) from rfl) (show r8.2.length = r8.2.length from rfl)) (.c (fit_full (show (r8.2.map eTMember) = (r8.2.map eTMember) from rfl) (show r8.2.length = r8.2.length from rfl)) (.c (pure_map eTMember_pure r8.2) (.c (rfl : obIn (some (Ob.mk 3 (r10.1.map (eOTRat 31 1)) .live :: (r10.2.map (poolO .live 1 eI)))) 0 = some (Ob.mk 3 (r10.1.map (eOTRat 31 1)) .live)) (.c (rfl : _ = true) (.c (fit_full (show (r10.1.map (eOTRat 31 1)) = (r10.1.map (eOTRat 31 1)) from rfl) (show r10.1.length = r10.1.length from rfl)) (.c (pure_map eTRat_pure (r10.1.map (vwOTRat r10.2))) (.c (dv_map (rp := 31) (prow := [Ob.mk 3 (r10.1.map (eOTRat 31 1)) .live] ++ (r10.2.map (poolO .live 1 eI))) (al := isAny) (sz := 3) (g := eTRat) (show (r10.1.map (eOTRat 31 1)) = (r10.1.map (eOTRat 31 1)) from rfl) (fun _ => rfl) (fun x hx => (dvOTRat (rp := 31) (c := 1) (al := isAny) (heads := [Ob.mk 3 (r10.1.map (eOTRat 31 1)) .live]) (show (r10.2.map (poolO .live 1 eI)) = (r10.2.map (poolO .live 1 eI)) from rfl) rfl kl rfl (all_in h14 x hx))) (show r10.1.length = r10.1.length from rfl)) (.c (snap_full (show (r12.map eI) = (r12.map eI) from rfl) (show r12.length = r12.length from rfl)) (.c (fit_full (show (r12.map eI) = (r12.map eI) from rfl) (show r12.length = r12.length from rfl)) (.c (pure_map eI_pure r12) (.c (impl_OverloadedMembers_o_ok (⟨r8.1, r8.2⟩ : TStructure) (r10.1.map (vwOTRat r10.2)) r12 (.inr a19) h18) (.c (Sc.nils : Sc .nils) (.c (laws_eqIntS_ok ([] : List Int) r15 r20 h21) (.c (Sc.b _ : Sc (.b r20)) .nil))))))))))))))))));
    .ite (fun h22 =>
    .bnd fun r23 h24 =>
    (let t10 : List TE := t8 ++ ([.br false, .reg [nt, nt, (.call { mv := [], rc := [], ac := [ii], r := .agg [.osl 0 0 0 r8.1.length, .osl 0 1 0 r8.2.length], T1 := [[Ob.mk 4 (r8.1.map eTJoint) .live, Ob.mk 3 (r8.2.map eTMember) .live]], rr := .c1 (.agg [.id, .id]), rrc := [.rn [Ob.mk 4 (r8.1.map eTJoint) .live, Ob.mk 3 (r8.2.map eTMember) .live]], rds := [], sc := true }, true), (.call { ac := [.c1 (.agg [.sl (r8.1.map eTJoint), .sl (r8.2.map eTMember)]), .c1 (.agg [.sl (r8.1.map eTJoint), .sl (r8.2.map eTMember)])], rds := [27, 47], r := .b r23, sc := true }, true), nt]] : List TE);
    have o11 := o9.app (.c (not_t h22) (.c ((rn_cons (rn_es (tgt := (backL [.row 47])) (f' := eTJoint) (show (r8.1.map eTJoint) = (r8.1.map eTJoint) from rfl) (fun x => (nr_rn eTJoint_nr) x)) (rn_cons (rn_es (tgt := (backL [.row 47])) (f' := eTMember) (show (r8.2.map eTMember) = (r8.2.map eTMember) from rfl) (fun x => (nr_rn eTMember_nr) x)) rn_nil)) : [Ob.mk 4 (r8.1.map eTJoint) .live, Ob.mk 3 (r8.2.map eTMember) .live] = List.map (rnO (backL [.row 47])) [Ob.mk 4 (r8.1.map eTJoint) .live, Ob.mk 3 (r8.2.map eTMember) .live]) (.c ((live_cons rfl (live_cons rfl live_nil)) : LiveR [Ob.mk 4 (r8.1.map eTJoint) .live, Ob.mk 3 (r8.2.map eTMember) .live]) (.c (laws_toStructure_o_ok v_aS r8 h9) (.c (Sc.agg (sc_cons (Sc.osl _ _ _ _ : Sc (.osl 0 0 0 r8.1.length)) (sc_cons (Sc.osl _ _ _ _ : Sc (.osl 0 1 0 r8.2.length)) sc_nil)) : Sc (.agg [.osl 0 0 0 r8.1.length, .osl 0 1 0 r8.2.length])) (.c ((scT_cons (scR_cons (scO_es eTJoint_sc) (scR_cons (scO_es eTMember_sc) scR_nil)) scT_nil) : ScT [[Ob.mk 4 (r8.1.map eTJoint) .live, Ob.mk 3 (r8.2.map eTMember) .live]]) (.c (snap_full (show (r8.1.map eTJoint) = (r8.1.map eTJoint) from rfl) (show r8.1.length = r8.1.length from rfl)) (.c (fit_full (show (r8.1.map eTJoint) = (r8.1.map eTJoint) from rfl) (show r8.1.length = r8.1.length from rfl)) (.c (pure_map eTJoint_pure r8.1) (.c (snap_full (show (r8.2.map eTMember) = (r8.2.map eTMember) from rfl) (show r8.2.length = r8.2.length from rfl)) (.c (fit_full (show (r8.2.map eTMember) = (r8.2.map eTMember) from rfl) (show r8.2.length = r8.2.length from rfl)) (.c (pure_map eTMember_pure r8.2) (.c (snap_full (show (r8.1.map eTJoint) = (r8.1.map eTJoint) from rfl) (show r8.1.length = r8.1.length from rfl)) (.c (fit_full (show (r8.1.map eTJoint) = (r8.1.map eTJoint) from rfl) (show r8.1.length = r8.1.length from rfl)) (.c (pure_map eTJoint_pure r8.1) (.c (snap_full (show (r8.2.map eTMember) = (r8.2.map eTMember) from rfl) (show r8.2.length = r8.2.length from rfl)) (.c (fit_full (show (r8.2.map eTMember) = (r8.2.map eTMember) from rfl) (show r8.2.length = r8.2.length from rfl)) (.c (pure_map eTMember_pure r8.2) (.c (laws_eqStructure_ok (⟨r8.1, r8.2⟩ : TStructure) (⟨r8.1, r8.2⟩ : TStructure) r23 h24) (.c (Sc.b _ : Sc (.b r23)) .nil))))))))))))))))))));
    .ite (fun h25 =>
    .bnd fun r26 h27 =>
    (let t12 : List TE := t10 ++ ([.br false, .reg [nt, nt, (.call { mv := [], rc := [], ac := [ii], r := .osl 0 0 0 r10.1.length, T1 := [(Ob.mk 3 (r10.1.map (eOTRat 0 1)) .live :: (r10.2.map (poolO .live 1 eI)))], rr := ii, rrc := [.rn (Ob.mk 3 (r10.1.map (eOTRat 52 1)) .live :: (r10.2.map (poolO .live 1 eI)))], rds := [], sc := true }, true), (.call { ac := [.c1 (.c0 (.view 31 (Ob.mk 3 (r10.1.map (eOTRat 31 1)) .live) ((r10.1.map (vwOTRat r10.2)).map eTRat))), .c1 (.c0 (.view 52 (Ob.mk 3 (r10.1.map (eOTRat 52 1)) .live) ((r10.1.map (vwOTRat r10.2)).map eTRat)))], rds := [31, 52], r := .b r26, sc := true }, true), nt]] : List TE);
    have o13 := o11.app (.c (not_t h25) (.c ((rn_cons (rn_es (tgt := (backL [.row 52])) (f' := (eOTRat 52 1)) (show (r10.1.map (eOTRat 0 1)) = (r10.1.map (eOTRat 0 1)) from rfl) (fun x => (eOTRat_rn (rfl : (backL [.row 52]) 0 = some 52)) x)) (rn_pool (tgt := (backL [.row 52])) (show (r10.2.map (poolO .live 1 eI)) = (r10.2.map (poolO .live 1 eI)) from rfl) (fun x => (nr_rn eI_nr) x))) : (Ob.mk 3 (r10.1.map (eOTRat 52 1)) .live :: (r10.2.map (poolO .live 1 eI))) = List.map (rnO (backL [.row 52])) (Ob.mk 3 (r10.1.map (eOTRat 0 1)) .live :: (r10.2.map (poolO .live 1 eI)))) (.c ((live_cons rfl (live_pool (show (r10.2.map (poolO .live 1 eI)) = (r10.2.map (poolO .live 1 eI)) from rfl))) : LiveR (Ob.mk 3 (r10.1.map (eOTRat 0 1)) .live :: (r10.2.map (poolO .live 1 eI)))) (.c (laws_toRatS_o_ok v_aQ r10 h11) (.c (Sc.osl _ _ _ _ : Sc (.osl 0 0 0 r10.1.length)) (.c ((scT_cons (scR_cons (scO_es (eOTRat_sc _ _)) (scR_pool eI_sc)) scT_nil) : ScT [(Ob.mk 3 (r10.1.map (eOTRat 0 1)) .live :: (r10.2.map (poolO .live 1 eI)))]) (.c (rfl : obIn (some (Ob.mk 3 (r10.1.map (eOTRat 31 1)) .live :: (r10.2.map (poolO .live 1 eI)))) 0 = some (Ob.mk 3 (r10.1.map (eOTRat 31 1)) .live)) (.c (rfl : _ = true) (.c (fit_full (show (r10.1.map (eOTRat 31 1)) = (r10.1.map (eOTRat 31 1)) from rfl) (show r10.1.length = r10.1.length from rfl)) (.c (pure_map eTRat_pure (r10.1.map (vwOTRat r10.2))) (.c (dv_map (rp := 31) (prow := [Ob.mk 3 (r10.1.map (eOTRat 31 1)) .live] ++ (r10.2.map (poolO .live 1 eI))) (al := isAny) (sz := 3) (g := eTRat) (show (r10.1.map (eOTRat 31 1)) = (r10.1.map (eOTRat 31 1)) from rfl) (fun _ => rfl) (fun x hx => (dvOTRat (rp := 31) (c := 1) (al := isAny) (heads := [Ob.mk 3 (r10.1.map (eOTRat 31 1)) .live]) (show (r10.2.map (poolO .live 1 eI)) = (r10.2.map (poolO .live 1 eI)) from rfl) rfl kl rfl (all_in h14 x hx))) (show r10.1.length = r10.1.length from rfl)) (.c (rfl : obIn (some (Ob.mk 3 (r10.1.map (eOTRat 52 1)) .live :: (r10.2.map (poolO .live 1 eI)))) 0 = some (Ob.mk 3 (r10.1.map (eOTRat 52 1)) .live)) (.c (rfl : _ = true) (.c (fit_full (show (r10.1.map (eOTRat 52 1)) = (r10.1.map (eOTRat 52 1)) from rfl) (show r10.1.length = r10.1.length from rfl)) (.c (pure_map eTRat_pure (r10.1.map (vwOTRat r10.2))) (.c (dv_map (rp := 52) (prow := [Ob.mk 3 (r10.1.map (eOTRat 52 1)) .live] ++ (r10.2.map (poolO .live 1 eI))) (al := isAny) (sz := 3) (g := eTRat) (show (r10.1.map (eOTRat 52 1)) = (r10.1.map (eOTRat 52 1)) from rfl) (fun _ => rfl) (fun x hx => (dvOTRat (rp := 52) (c := 1) (al := isAny) (heads := [Ob.mk 3 (r10.1.map (eOTRat 52 1)) .live]) (show (r10.2.map (poolO .live 1 eI)) = (r10.2.map (poolO .live 1 eI)) from rfl) rfl kl rfl (all_in h14 x hx))) (show r10.1.length = r10.1.length from rfl)) (.c (laws_eqRatS_ok (r10.1.map (vwOTRat r10.2)) (r10.1.map (vwOTRat r10.2)) r26 h27) (.c (Sc.b _ : Sc (.b r26)) .nil))))))))))))))))));
    .ite (fun h28 =>
    .bnd fun r29 h30 =>
    (let t14 : List TE := t12 ++ ([.br false, .reg [nt, nt, (.call { mv := [], rc := [], ac := [ii], r := .osl 0 0 0 r12.length, T1 := [[Ob.mk 1 (r12.map eI) .live]], rr := ii, rrc := [.pure], rds := [], sc := true }, true), (.call { ac := [.c1 (.c0 (.sl (r12.map eI))), .c1 (.c0 (.sl (r12.map eI)))], rds := [34, 57], r := .b r29, sc := true }, true), nt]] : List TE);
    have o15 := o13.app (.c (not_t h28) (.c (pure_live eI_pure r12 : PureLive [Ob.mk 1 (r12.map eI) .live]) (.c (laws_toIntS_o_ok v_aW r12 h13) (.c (Sc.osl _ _ _ _ : Sc (.osl 0 0 0 r12.length)) (.c ((scT_cons (scR_cons (scO_es eI_sc) scR_nil) scT_nil) : ScT [[Ob.mk 1 (r12.map eI) .live]]) (.c (snap_full (show (r12.map eI) = (r12.map eI) from rfl) (show r12.length = r12.length from rfl)) (.c (fit_full (show (r12.map eI) = (r12.map eI) from rfl) (show r12.length = r12.length from rfl)) (.c (pure_map eI_pure r12) (.c (snap_full (show (r12.map eI) = (r12.map eI) from rfl) (show r12.length = r12.length from rfl)) (.c (fit_full (show (r12.map eI) = (r12.map eI) from rfl) (show r12.length = r12.length from rfl)) (.c (pure_map eI_pure r12) (.c (laws_eqIntS_ok r12 r12 r29 h30) (.c (Sc.b _ : Sc (.b r29)) .nil)))))))))))));
    .ite (fun h31 =>
    .bnd fun r32 h33 =>
    .bnd fun r34 h35 =>
    .bnd fun r36 h37 =>
    (let t16 : List TE := t14 ++ ([.br false, .reg [nt], .reg [nt, nt, (.call { mv := [.ob 27 0 (Ob.mk 4 (r8.1.map eTJoint) .live), .ob 27 1 (Ob.mk 3 (r8.2.map eTMember) .live)], rc := [.pure, .pure], ac := [.c1 (.agg [.at_ 0 0 r8.1.length, .at_ 1 0 r8.2.length]), ii], r := .n .i64 r32.1, T1 := [[Ob.mk 4 (r32.2.1.map eTJoint) .live], [Ob.mk 3 (r32.2.2.map eTMember) .live]], rr := ii, rrc := [.pure, .pure], rds := [27], sc := false }, true), nt], .reg [nt, nt, (.call { mv := [.row 31], rc := [.rn (Ob.mk 3 (r10.1.map (eOTRat 0 1)) .live :: (r10.2.map (poolO .live 1 eI)))], ac := [ii, ii], r := .n .i64 r34.1, T1 := [(Ob.mk 3 (r34.2.1.map (eOTRat 0 1)) .live :: (r34.2.2.map (poolO .live 1 eI)))], rr := ii, rrc := [.rn (Ob.mk 3 (r34.2.1.map (eOTRat 31 1)) .live :: (r34.2.2.map (poolO .live 1 eI)))], rds := [31], sc := false }, true), nt], .reg [nt, nt, (.call { mv := [.row 34], rc := [.pure], ac := [ii, ii], r := .n .i64 r36.1, T1 := [[Ob.mk 1 (r36.2.map eI) .live]], rr := ii, rrc := [.pure], rds := [34], sc := false }, true), nt]] : List TE);
    have o17 := o15.app (.c (not_t h31) (.c (by decide : 0 ≠ 1) (.c (rfl : mvL [.ob 27 0 (Ob.mk 4 (r8.1.map eTJoint) .live), .ob 27 1 (Ob.mk 3 (r8.2.map eTMember) .live)] 0 0 = some (27, 0)) (.c (rfl : r8.1.length = r8.1.length) (.c (rfl : mvL [.ob 27 0 (Ob.mk 4 (r8.1.map eTJoint) .live), .ob 27 1 (Ob.mk 3 (r8.2.map eTMember) .live)] 1 0 = some (27, 1)) (.c (rfl : r8.2.length = r8.2.length) (.c (rfl : obIn (some [Ob.mk 4 (r8.1.map eTJoint) .live, Ob.mk 3 (r8.2.map eTMember) .live]) 0 = some (Ob.mk 4 (r8.1.map eTJoint) .live)) (.c (pure_live eTJoint_pure r8.1 : PureLive [Ob.mk 4 (r8.1.map eTJoint) .live]) (.c (rfl : obIn (some [Ob.mk 4 (r8.1.map eTJoint) .live, Ob.mk 3 (r8.2.map eTMember) .live]) 1 = some (Ob.mk 3 (r8.2.map eTMember) .live)) (.c (pure_live eTMember_pure r8.2 : PureLive [Ob.mk 3 (r8.2.map eTMember) .live]) (.c (pure_live eTJoint_pure r32.2.1 : PureLive [Ob.mk 4 (r32.2.1.map eTJoint) .live]) (.c (pure_live eTMember_pure r32.2.2 : PureLive [Ob.mk 3 (r32.2.2.map eTMember) .live]) (.c (laws_markStructure_o_ok 1 r8.1 r8.2 r32 h33) (.c ((rn_cons (rn_es (tgt := (tgtL 0 [.row 31])) (f' := (eOTRat 0 1)) (show (r10.1.map (eOTRat 31 1)) = (r10.1.map (eOTRat 31 1)) from rfl) (fun x => (eOTRat_rn (rfl : (tgtL 0 [.row 31]) 31 = some 0)) x)) (rn_pool (tgt := (tgtL 0 [.row 31])) (show (r10.2.map (poolO .live 1 eI)) = (r10.2.map (poolO .live 1 eI)) from rfl) (fun x => (nr_rn eI_nr) x))) : (Ob.mk 3 (r10.1.map (eOTRat 0 1)) .live :: (r10.2.map (poolO .live 1 eI))) = List.map (rnO (tgtL 0 [.row 31])) (Ob.mk 3 (r10.1.map (eOTRat 31 1)) .live :: (r10.2.map (poolO .live 1 eI)))) (.c ((live_cons rfl (live_pool (show (r10.2.map (poolO .live 1 eI)) = (r10.2.map (poolO .live 1 eI)) from rfl))) : LiveR (Ob.mk 3 (r10.1.map (eOTRat 31 1)) .live :: (r10.2.map (poolO .live 1 eI)))) (.c ((rn_cons (rn_es (tgt := (backL [.row 31])) (f' := (eOTRat 31 1)) (show (r34.2.1.map (eOTRat 0 1)) = (r34.2.1.map (eOTRat 0 1)) from rfl) (fun x => (eOTRat_rn (rfl : (backL [.row 31]) 0 = some 31)) x)) (rn_pool (tgt := (backL [.row 31])) (show (r34.2.2.map (poolO .live 1 eI)) = (r34.2.2.map (poolO .live 1 eI)) from rfl) (fun x => (nr_rn eI_nr) x))) : (Ob.mk 3 (r34.2.1.map (eOTRat 31 1)) .live :: (r34.2.2.map (poolO .live 1 eI))) = List.map (rnO (backL [.row 31])) (Ob.mk 3 (r34.2.1.map (eOTRat 0 1)) .live :: (r34.2.2.map (poolO .live 1 eI)))) (.c ((live_cons rfl (live_pool (show (r34.2.2.map (poolO .live 1 eI)) = (r34.2.2.map (poolO .live 1 eI)) from rfl))) : LiveR (Ob.mk 3 (r34.2.1.map (eOTRat 0 1)) .live :: (r34.2.2.map (poolO .live 1 eI)))) (.c (laws_markRatS_o_ok r32.1 r10.1 r10.2 r34 h35) (.c (pure_live eI_pure r12 : PureLive [Ob.mk 1 (r12.map eI) .live]) (.c (pure_live eI_pure r36.2 : PureLive [Ob.mk 1 (r36.2.map eI) .live]) (.c (laws_markIntS_o'_ok r34.1 r12 r36 h37) .nil)))))))))))))))))))));
    .ite (fun h38 =>
    .ret (runF_con0 hmix (tape := t16 ++ ([.reg [nt, nt, nt, nf, nf, nf, nf, (.br true, true)], .br true, .reg [nt]] : List TE)) (rr := ii) (by kernel_rfl) (o17.app (.c h38 (.c h38 (.c h38 (.c h38 (.c h38 (.c (rfl : true = true) .nil)))))))))
    (fun h38 =>
    .bnd fun r39 h40 =>
    .bnd fun r41 h42 =>
    (let t18 : List TE := t16 ++ ([.reg [nt, nt, nt, nt, nt, (.call { ac := [.c1 (.c0 (.nl 1)), ii], r := .b r20, sc := true }, true), nt, (.br false, true)], .br false, .reg [nt], .reg [nt, nt, (.call { ac := [.c1 (.c0 (.nl 1)), ii], r := .n .i64 r39, sc := true }, true), nt], .reg [nt], .reg [nt, nt, (.call { ac := [.c1 (.c0 (.nl 1)), ii], r := .n .i64 r41, sc := true }, true), nt], .reg [nt, nt]] : List TE);
    have o19 := o17.app (.c h38 (.c h38 (.c h38 (.c (laws_eqIntS_ok ([] : List Int) r15 r20 h21) (.c (Sc.b _ : Sc (.b r20)) (.c h38 (.c h38 (.c (not_t h22) (.c (laws_markIntS_ok ([] : List Int) 1 r39 h40) (.c (Sc.n _ _ : Sc (.n .i64 r39)) (.c (laws_heldIntS_ok ([] : List Int) 1 r41 h42) (.c (Sc.n _ _ : Sc (.n .i64 r41)) .nil))))))))))));
    .ite (fun h43 =>
    .ret (runF_con0 hmix (tape := t18 ++ ([.br true, .reg [nt]] : List TE)) (rr := ii) (by kernel_rfl) (o19.app (.c h43 .nil))))
    (fun h43 =>
    (let t20 : List TE := t18 ++ ([.br false, .reg [nt, nt, nt]] : List TE);
    .ite (fun h44 =>
    .ret (runF_con0 hmix (tape := t20 ++ ([.br true, .reg [nt]] : List TE)) (rr := ii) (by kernel_rfl) (o19.app (.c h43 (.c h44 .nil)))))
    (fun h44 =>
    .ret (runF_con0 hmix (tape := t20 ++ ([.br false, .reg [nt, (.call { mv := [], rc := [], ac := [ii], r := .agg [.osl 0 0 0 r8.1.length, .osl 0 1 0 r8.2.length], T1 := [[Ob.mk 4 (r8.1.map eTJoint) .live, Ob.mk 3 (r8.2.map eTMember) .live]], rr := .c1 (.agg [.id, .id]), rrc := [.rn [Ob.mk 4 (r8.1.map eTJoint) .live, Ob.mk 3 (r8.2.map eTMember) .live]], rds := [], sc := true }, true), nt, (.call { mv := [], rc := [], ac := [ii], r := .osl 0 0 0 r10.1.length, T1 := [(Ob.mk 3 (r10.1.map (eOTRat 0 1)) .live :: (r10.2.map (poolO .live 1 eI)))], rr := ii, rrc := [.rn (Ob.mk 3 (r10.1.map (eOTRat 99 1)) .live :: (r10.2.map (poolO .live 1 eI)))], rds := [], sc := true }, true), nt, (.call { mv := [], rc := [], ac := [ii], r := .osl 0 0 0 r12.length, T1 := [[Ob.mk 1 (r12.map eI) .live]], rr := ii, rrc := [.pure], rds := [], sc := true }, true), (.call { mv := [], rc := [], ac := [.c1 (.agg [.sl (r8.1.map eTJoint), .sl (r8.2.map eTMember)]), .c1 (.c0 (.view 99 (Ob.mk 3 (r10.1.map (eOTRat 99 1)) .live) ((r10.1.map (vwOTRat r10.2)).map eTRat))), .c1 (.c0 (.sl (r12.map eI)))], r := .nils, T1 := [], rr := ii, rrc := [], rds := [97, 99, 101], sc := true }, true), nt], .reg [nt, nt, (.call { ac := [.c1 (.c0 (.nl 1)), ii], r := .b r20, sc := true }, true), nt], .br false, .reg [nt], .reg [nt, nt, (.call { ac := [.c1 (.c0 (.nl 1)), ii], r := .n .i64 r41, sc := true }, true), nt], .reg [nt, nt], .br false, .reg [nt, nt, nt], .br false, .reg [nt]] : List TE)) (rr := ii) (by kernel_rfl) (o19.app (.c h43 (.c h44 (.c ((rn_cons (rn_es (tgt := (backL [.row 97])) (f' := eTJoint) (show (r8.1.map eTJoint) = (r8.1.map eTJoint) from rfl) (fun x => (nr_rn eTJoint_nr) x)) (rn_cons (rn_es (tgt := (backL [.row 97])) (f' := eTMember) (show (r8.2.map eTMember) = (r8.2.map eTMember) from rfl) (fun x => (nr_rn eTMember_nr) x)) rn_nil)) : [Ob.mk 4 (r8.1.map eTJoint) .live, Ob.mk 3 (r8.2.map eTMember) .live] = List.map (rnO (backL [.row 97])) [Ob.mk 4 (r8.1.map eTJoint) .live, Ob.mk 3 (r8.2.map eTMember) .live]) (.c ((live_cons rfl (live_cons rfl live_nil)) : LiveR [Ob.mk 4 (r8.1.map eTJoint) .live, Ob.mk 3 (r8.2.map eTMember) .live]) (.c (laws_toStructure_o_ok v_aS r8 h9) (.c (Sc.agg (sc_cons (Sc.osl _ _ _ _ : Sc (.osl 0 0 0 r8.1.length)) (sc_cons (Sc.osl _ _ _ _ : Sc (.osl 0 1 0 r8.2.length)) sc_nil)) : Sc (.agg [.osl 0 0 0 r8.1.length, .osl 0 1 0 r8.2.length])) (.c ((scT_cons (scR_cons (scO_es eTJoint_sc) (scR_cons (scO_es eTMember_sc) scR_nil)) scT_nil) : ScT [[Ob.mk 4 (r8.1.map eTJoint) .live, Ob.mk 3 (r8.2.map eTMember) .live]]) (.c ((rn_cons (rn_es (tgt := (backL [.row 99])) (f' := (eOTRat 99 1)) (show (r10.1.map (eOTRat 0 1)) = (r10.1.map (eOTRat 0 1)) from rfl) (fun x => (eOTRat_rn (rfl : (backL [.row 99]) 0 = some 99)) x)) (rn_pool (tgt := (backL [.row 99])) (show (r10.2.map (poolO .live 1 eI)) = (r10.2.map (poolO .live 1 eI)) from rfl) (fun x => (nr_rn eI_nr) x))) : (Ob.mk 3 (r10.1.map (eOTRat 99 1)) .live :: (r10.2.map (poolO .live 1 eI))) = List.map (rnO (backL [.row 99])) (Ob.mk 3 (r10.1.map (eOTRat 0 1)) .live :: (r10.2.map (poolO .live 1 eI)))) (.c ((live_cons rfl (live_pool (show (r10.2.map (poolO .live 1 eI)) = (r10.2.map (poolO .live 1 eI)) from rfl))) : LiveR (Ob.mk 3 (r10.1.map (eOTRat 0 1)) .live :: (r10.2.map (poolO .live 1 eI)))) (.c (laws_toRatS_o_ok v_aQ r10 h11) (.c (Sc.osl _ _ _ _ : Sc (.osl 0 0 0 r10.1.length)) (.c ((scT_cons (scR_cons (scO_es (eOTRat_sc _ _)) (scR_pool eI_sc)) scT_nil) : ScT [(Ob.mk 3 (r10.1.map (eOTRat 0 1)) .live :: (r10.2.map (poolO .live 1 eI)))]) (.c (pure_live eI_pure r12 : PureLive [Ob.mk 1 (r12.map eI) .live]) (.c (laws_toIntS_o_ok v_aW r12 h13) (.c (Sc.osl _ _ _ _ : Sc (.osl 0 0 0 r12.length)) (.c ((scT_cons (scR_cons (scO_es eI_sc) scR_nil) scT_nil) : ScT [[Ob.mk 1 (r12.map eI) .live]]) (.c (snap_full (show (r8.1.map eTJoint) = (r8.1.map eTJoint) from rfl) (show r8.1.length = r8.1.length from rfl)) (.c (fit_full (show (r8.1.map eTJoint) = (r8.1.map eTJoint) from rfl) (show r8.1.length = r8.1.length from rfl)) (.c (pure_map eTJoint_pure r8.1) (.c (snap_full (show (r8.2.map eTMember) = (r8.2.map eTMember) from rfl) (show r8.2.length = r8.2.length from rfl)) (.c (fit_full (show (r8.2.map eTMember) = (r8.2.map eTMember) from rfl) (show r8.2.length = r8.2.length from rfl)) (.c (pure_map eTMember_pure r8.2) (.c (rfl : obIn (some (Ob.mk 3 (r10.1.map (eOTRat 99 1)) .live :: (r10.2.map (poolO .live 1 eI)))) 0 = some (Ob.mk 3 (r10.1.map (eOTRat 99 1)) .live)) (.c (rfl : _ = true) (.c (fit_full (show (r10.1.map (eOTRat 99 1)) = (r10.1.map (eOTRat 99 1)) from rfl) (show r10.1.length = r10.1.length from rfl)) (.c (pure_map eTRat_pure (r10.1.map (vwOTRat r10.2))) (.c (dv_map (rp := 99) (prow := [Ob.mk 3 (r10.1.map (eOTRat 99 1)) .live] ++ (r10.2.map (poolO .live 1 eI))) (al := isAny) (sz := 3) (g := eTRat) (show (r10.1.map (eOTRat 99 1)) = (r10.1.map (eOTRat 99 1)) from rfl) (fun _ => rfl) (fun x hx => (dvOTRat (rp := 99) (c := 1) (al := isAny) (heads := [Ob.mk 3 (r10.1.map (eOTRat 99 1)) .live]) (show (r10.2.map (poolO .live 1 eI)) = (r10.2.map (poolO .live 1 eI)) from rfl) rfl kl rfl (all_in h14 x hx))) (show r10.1.length = r10.1.length from rfl)) (.c (snap_full (show (r12.map eI) = (r12.map eI) from rfl) (show r12.length = r12.length from rfl)) (.c (fit_full (show (r12.map eI) = (r12.map eI) from rfl) (show r12.length = r12.length from rfl)) (.c (pure_map eI_pure r12) (.c (impl_OverloadedMembers_o_ok (⟨r8.1, r8.2⟩ : TStructure) (r10.1.map (vwOTRat r10.2)) r12 (.inr a19) h18) (.c (Sc.nils : Sc .nils) (.c (laws_eqIntS_ok ([] : List Int) r15 r20 h21) (.c (Sc.b _ : Sc (.b r20)) (.c (not_t h22) (.c (laws_heldIntS_ok ([] : List Int) 1 r41 h42) (.c (Sc.n _ _ : Sc (.n .i64 r41)) (.c h43 (.c h44 .nil))))))))))))))))))))))))))))))))))))))))))))))))
    (fun h31 =>
    .ret (runF_con0 hmix (tape := t14 ++ ([.br true, .reg [nt]] : List TE)) (rr := ii) (by kernel_rfl) (o15.app (.c (not_f h31) .nil))))))
    (fun h28 =>
    .ret (runF_con0 hmix (tape := t12 ++ ([.br true, .reg [nt]] : List TE)) (rr := ii) (by kernel_rfl) (o13.app (.c (not_f h28) .nil))))))
    (fun h25 =>
    .ret (runF_con0 hmix (tape := t10 ++ ([.br true, .reg [nt]] : List TE)) (rr := ii) (by kernel_rfl) (o11.app (.c (not_f h25) .nil))))))
    (fun h22 =>
    .ret (runF_con0 hmix (tape := t8 ++ ([.br true, .reg [nt]] : List TE)) (rr := ii) (by kernel_rfl) (o9.app (.c (not_f h22) .nil))))))))))))))

end Go.Proofs.YtiacejpdgjmdfaaGreat
