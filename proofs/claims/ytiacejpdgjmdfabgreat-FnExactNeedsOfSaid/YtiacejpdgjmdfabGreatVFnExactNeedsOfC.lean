/- Plain functions for the program's functions, and that calls come to them: printed by a program. No condition. -/
import Derived.Test.YtiacejpdgjmdfabGreatVFnExactNeedsOfB
namespace Go.Proofs.YtiacejpdgjmdfabGreat
set_option linter.unusedVariables false
set_option linter.unusedSimpArgs false
open Go Go.VL

def laws_markStructure_o (v_k : Int) (rw0 : (List TJoint)) (rw1 : (List TMember)) : Option (Int × (List TJoint) × (List TMember)) :=
  laws_markJointS_o v_k rw0 >>= fun r1 =>
  laws_markMemberS_o r1.1 rw1 >>= fun r3 =>
  some (r3.1, r1.2, r3.2)

theorem laws_markStructure_o_ok (v_k : Int) (rw0 : (List TJoint)) (rw1 : (List TMember)) : Wp (laws_markStructure_o v_k rw0 rw1) (fun a => Con PP 13 [.agg [.osl 0 0 0 rw0.length, .osl 1 0 0 rw1.length], .n .i64 v_k] [[Ob.mk 4 (rw0.map eTJoint) .live], [Ob.mk 3 (rw1.map eTMember) .live]] (.n .i64 a.1) [[Ob.mk 4 (a.2.1.map eTJoint) .live], [Ob.mk 3 (a.2.2.map eTMember) .live]]) := by
  unfold laws_markStructure_o
  exact .bnd fun r1 h2 =>
    .bnd fun r3 h4 =>
    .ret (runF_con hmix (tape := [.reg [nt, nt], .reg [nt, nt, nt, (.call { mv := [.row 0], rc := [.pure], ac := [ii, ii], r := .n .i64 r1.1, T1 := [[Ob.mk 4 (r1.2.map eTJoint) .live]], rr := ii, rrc := [.pure], rds := [0], sc := false }, true), nt], .reg [nt, nt, nt, (.call { mv := [.row 1], rc := [.pure], ac := [ii, ii], r := .n .i64 r3.1, T1 := [[Ob.mk 3 (r3.2.map eTMember) .live]], rr := ii, rrc := [.pure], rds := [1], sc := false }, true), nt], .reg [nt, nt]]) (mv := [0, 1]) (rc := [.pure, .pure]) (rr := ii) (by kernel_rfl) (.c (pure_live eTJoint_pure rw0 : PureLive [Ob.mk 4 (rw0.map eTJoint) .live]) (.c (pure_live eTJoint_pure r1.2 : PureLive [Ob.mk 4 (r1.2.map eTJoint) .live]) (.c (laws_markJointS_o_ok v_k rw0 r1 h2) (.c (pure_live eTMember_pure rw1 : PureLive [Ob.mk 3 (rw1.map eTMember) .live]) (.c (pure_live eTMember_pure r3.2 : PureLive [Ob.mk 3 (r3.2.map eTMember) .live]) (.c (laws_markMemberS_o_ok r1.1 rw1 r3 h4) (.c (pure_row eTJoint_pure r1.2 : PureRow [Ob.mk 4 (r1.2.map eTJoint) .live]) (.c (pure_row eTMember_pure r3.2 : PureRow [Ob.mk 3 (r3.2.map eTMember) .live]) .nil)))))))))

def laws_markIntS_L1_head (v_a : (List Int)) (v_k : Int)  : S := mkS [(0, .isl 1 (v_a.map eI)), (1, .n .i64 v_k), (5, .n .i64 (0 : Int))] []

def laws_markIntS_L1_ex : Unit → Exit
  | _ => .exit 0

def laws_markIntS_L1_out (v_a : (List Int)) (v_k : Int) : Unit → S
  | a => mkS [(1, .n .i64 v_k)] []

abbrev laws_markIntS_L1_V := VEx PP 19 0 (nodeAt (bodyOf PP 15) [1, 0, 1, 0, 0])

def laws_markIntS_L1_body (v_a : (List Int)) (v_k : Int)  : Option ((Unit) ⊕ (Unit)) :=
  if (decide ((0 : Int) < (len_ eI v_a))) = true then
    if 0 ≤ (0 : Int) ∧ (0 : Int) < v_a.length then
    none
    else none
  else
    some (.inr ())

def laws_markIntS_L1 (v_a : (List Int)) (v_k : Int)  : Option (Unit) := iter (fun w : Unit => laws_markIntS_L1_body v_a v_k ) ()

theorem laws_markIntS_L1_body_ok (v_a : (List Int)) (v_k : Int)  : Wp (laws_markIntS_L1_body v_a v_k ) (Sum.elim
    (fun w => laws_markIntS_L1_V .normal (laws_markIntS_L1_head v_a v_k) (laws_markIntS_L1_head v_a v_k ))
    (fun r => laws_markIntS_L1_V (laws_markIntS_L1_ex r) (laws_markIntS_L1_head v_a v_k) (laws_markIntS_L1_out v_a v_k r))) := by
  unfold laws_markIntS_L1_body
  exact .ite (fun h1 =>
    .grd fun h2 =>
    .nix)
    (fun h1 =>
    .ret ((okC_sound hmix (tape := [.reg [nt, nt, nt, nt], .br false, .rst [] [] [(1, ii)]]) (nr := 0) (by kernel_rfl) (.c h1 .nil) (mkS_free _ _) : laws_markIntS_L1_V (.exit 0) (laws_markIntS_L1_head v_a v_k) (laws_markIntS_L1_out v_a v_k ()))))

theorem laws_markIntS_L1_ok (v_a : (List Int)) (v_k : Int)  : ∀ r, laws_markIntS_L1 v_a v_k  = some r → VLoop PP 19 0 (nodeAt (bodyOf PP 15) [1, 0, 1, 0, 0]) (laws_markIntS_L1_ex r) (laws_markIntS_L1_head v_a v_k) (laws_markIntS_L1_out v_a v_k r) := fun r h =>
  iter_ok (head := fun w : Unit => laws_markIntS_L1_head v_a v_k ) (ex := laws_markIntS_L1_ex) (out := laws_markIntS_L1_out v_a v_k) (by intro r; unfold laws_markIntS_L1_ex; split <;> simp) (fun w => laws_markIntS_L1_body_ok v_a v_k ) () r h

def laws_markIntS (v_a : (List Int)) (v_k : Int) : Option Int :=
  laws_markIntS_L1 v_a v_k >>= fun r1 =>
  some v_k

theorem laws_markIntS_ok (v_a : (List Int)) (v_k : Int) : Wp (laws_markIntS v_a v_k) (fun r => Con PP 15 [.isl 1 (v_a.map eI), .n .i64 v_k] [] (.n .i64 r) []) := by
  unfold laws_markIntS
  exact .bnd fun r1 h2 =>
    .ret (runF_con0 hmix (tape := [.reg [nt], .reg [nt], .rst [] [] [(0, ii), (1, ii), (5, ii)], .sub (.exit 0) [(1, .n .i64 v_k)] [], .reg [nt, nt]]) (rr := ii) (by kernel_rfl) (.c ((laws_markIntS_L1_ok v_a v_k r1 h2).vex) .nil))

def laws_markIntS_o_L1_head (v_a_lo : Nat) (v_a_len : Nat) (v_k : Int) (v_i : Int) (row0 : (List Int)) : S := mkS [(0, .osl 0 0 v_a_lo v_a_len), (1, .n .i64 v_k), (5, .n .i64 v_i)] [[Ob.mk 1 (row0.map eI) .live]]

def laws_markIntS_o_L1_ex : (Int × (List Int)) → Exit
  | _ => .exit 0

def laws_markIntS_o_L1_out (v_a_lo : Nat) (v_a_len : Nat) : (Int × (List Int)) → S
  | a => mkS [(1, .n .i64 a.1)] [[Ob.mk 1 (a.2.map eI) .live]]

abbrev laws_markIntS_o_L1_V := VEx PP 19 1 (nodeAt (bodyOf PP 15) [1, 0, 1, 0, 0])

def laws_markIntS_o_L1_body (v_a_lo : Nat) (v_a_len : Nat) (v_k : Int) (v_i : Int) (row0 : (List Int)) : Option ((Int × Int × (List Int)) ⊕ (Int × (List Int))) :=
  if (decide (v_i < ((v_a_len : Nat) : Int))) = true then
    if 0 ≤ v_i ∧ v_i < (v_a_len : Nat) then
    if (v_a_lo + v_i.toNat) < row0.length then
    some (.inl (w64 (v_k + (1 : Int)), w64 (v_i + (1 : Int)), row0.set (v_a_lo + v_i.toNat) v_k))
    else none
    else none
  else
    some (.inr (v_k, row0))

def laws_markIntS_o_L1 (v_a_lo : Nat) (v_a_len : Nat) (v_k : Int) (v_i : Int) (row0 : (List Int)) : Option (Int × (List Int)) := iter (fun w : Int × Int × (List Int) => laws_markIntS_o_L1_body v_a_lo v_a_len w.1 w.2.1 w.2.2) (v_k, v_i, row0)

theorem laws_markIntS_o_L1_body_ok (v_a_lo : Nat) (v_a_len : Nat) (v_k : Int) (v_i : Int) (row0 : (List Int)) : Wp (laws_markIntS_o_L1_body v_a_lo v_a_len v_k v_i row0) (Sum.elim
    (fun w => laws_markIntS_o_L1_V .normal (laws_markIntS_o_L1_head v_a_lo v_a_len v_k v_i row0) (laws_markIntS_o_L1_head v_a_lo v_a_len w.1 w.2.1 w.2.2))
    (fun r => laws_markIntS_o_L1_V (laws_markIntS_o_L1_ex r) (laws_markIntS_o_L1_head v_a_lo v_a_len v_k v_i row0) (laws_markIntS_o_L1_out v_a_lo v_a_len r))) := by
  unfold laws_markIntS_o_L1_body
  exact (let t1 : List TE := [.reg [nt, nt, nt, nt]];
    .ite (fun h1 =>
    .grd fun h2 =>
    .grd fun h3 =>
    .ret ((okC_sound hmix (tape := t1 ++ ([.br true, .reg [nt, nt, nt, nt, (.bd, true)], .reg [nt, nt, nt], .reg [nt, nt, nt], .rst [0] [.as [Ob.mk 1 ((row0.set (v_a_lo + v_i.toNat) v_k).map eI) .live]] [(0, ii), (1, ii), (5, ii)]] : List TE)) (nr := 1) (by kernel_rfl) (.c h1 (.c ((h2).1) (.c ((h2).2) (.c (lt_map h3 : (v_a_lo + v_i.toNat) < (row0.map eI).length) (.c (rfl : 1 = 1) (.c (row_prf (set_prf (show (row0.map eI) = (row0.map eI) from rfl) (v_a_lo + v_i.toNat) v_k) : [Ob.mk 1 ((row0.map eI).set (v_a_lo + v_i.toNat) [.n .i64 v_k]) .live] = [Ob.mk 1 ((row0.set (v_a_lo + v_i.toNat) v_k).map eI) .live]) (.c (pure_row eI_pure (row0.set (v_a_lo + v_i.toNat) v_k) : PureRow [Ob.mk 1 ((row0.set (v_a_lo + v_i.toNat) v_k).map eI) .live]) .nil))))))) (mkS_free _ _) : laws_markIntS_o_L1_V .normal (laws_markIntS_o_L1_head v_a_lo v_a_len v_k v_i row0) (laws_markIntS_o_L1_head v_a_lo v_a_len (w64 (v_k + (1 : Int))) (w64 (v_i + (1 : Int))) (row0.set (v_a_lo + v_i.toNat) v_k)))))
    (fun h1 =>
    .ret ((okC_sound hmix (tape := t1 ++ ([.br false, .rst [0] [.pure] [(1, ii)]] : List TE)) (nr := 1) (by kernel_rfl) (.c h1 (.c (pure_row eI_pure row0 : PureRow [Ob.mk 1 (row0.map eI) .live]) .nil)) (mkS_free _ _) : laws_markIntS_o_L1_V (.exit 0) (laws_markIntS_o_L1_head v_a_lo v_a_len v_k v_i row0) (laws_markIntS_o_L1_out v_a_lo v_a_len (v_k, row0))))))

theorem laws_markIntS_o_L1_ok (v_a_lo : Nat) (v_a_len : Nat) (v_k : Int) (v_i : Int) (row0 : (List Int)) : ∀ r, laws_markIntS_o_L1 v_a_lo v_a_len v_k v_i row0 = some r → VLoop PP 19 1 (nodeAt (bodyOf PP 15) [1, 0, 1, 0, 0]) (laws_markIntS_o_L1_ex r) (laws_markIntS_o_L1_head v_a_lo v_a_len v_k v_i row0) (laws_markIntS_o_L1_out v_a_lo v_a_len r) := fun r h =>
  iter_ok (head := fun w : Int × Int × (List Int) => laws_markIntS_o_L1_head v_a_lo v_a_len w.1 w.2.1 w.2.2) (ex := laws_markIntS_o_L1_ex) (out := laws_markIntS_o_L1_out v_a_lo v_a_len) (by intro r; unfold laws_markIntS_o_L1_ex; split <;> simp) (fun w => laws_markIntS_o_L1_body_ok v_a_lo v_a_len w.1 w.2.1 w.2.2) (v_k, v_i, row0) r h

def laws_markIntS_o (v_k : Int) (v_a_lo : Nat) (v_a_len : Nat) (rw0 : (List Int)) : Option (Int × (List Int)) :=
  laws_markIntS_o_L1 v_a_lo v_a_len v_k 0 rw0 >>= fun r1 =>
  some (r1.1, r1.2)

theorem laws_markIntS_o_ok (v_k : Int) (v_a_lo : Nat) (v_a_len : Nat) (rw0 : (List Int)) : Wp (laws_markIntS_o v_k v_a_lo v_a_len rw0) (fun a => Con PP 15 [.osl 0 0 v_a_lo v_a_len, .n .i64 v_k] [[Ob.mk 1 (rw0.map eI) .live]] (.n .i64 a.1) [[Ob.mk 1 (a.2.map eI) .live]]) := by
  unfold laws_markIntS_o
  exact .bnd fun r1 h2 =>
    .ret (runF_con hmix (tape := [.reg [nt], .reg [nt], .rst [0] [.pure] [(0, ii), (1, ii), (5, ii)], .sub (.exit 0) [(1, .n .i64 r1.1)] [[Ob.mk 1 (r1.2.map eI) .live]], .reg [nt, nt]]) (mv := [0]) (rc := [.pure]) (rr := ii) (by kernel_rfl) (.c (pure_row eI_pure rw0 : PureRow [Ob.mk 1 (rw0.map eI) .live]) (.c ((laws_markIntS_o_L1_ok v_a_lo v_a_len v_k 0 rw0 r1 h2).vex) (.c (pure_row eI_pure r1.2 : PureRow [Ob.mk 1 (r1.2.map eI) .live]) .nil))))

def laws_markRatS_o_L1_head  (v_k : Int) (v_i : Int) (row0_0 : (List OTRat)) (pool0 : (List (List Int))) : S := mkS [(0, .osl 0 0 0 row0_0.length), (1, .n .i64 v_k), (5, .n .i64 v_i)] [(Ob.mk 3 (row0_0.map (eOTRat 0 1)) .live :: (pool0.map (poolO .live 1 eI)))]

def laws_markRatS_o_L1_ex : (Int × (List OTRat) × (List (List Int))) → Exit
  | _ => .exit 0

def laws_markRatS_o_L1_out  : (Int × (List OTRat) × (List (List Int))) → S
  | a => mkS [(1, .n .i64 a.1)] [(Ob.mk 3 (a.2.1.map (eOTRat 0 1)) .live :: (a.2.2.map (poolO .live 1 eI)))]

abbrev laws_markRatS_o_L1_V := VEx PP 38 1 (nodeAt (bodyOf PP 14) [1, 0, 1, 0, 0])

def laws_markRatS_o_L1_body  (v_k : Int) (v_i : Int) (row0_0 : (List OTRat)) (pool0 : (List (List Int))) : Option ((Int × Int × (List OTRat) × (List (List Int))) ⊕ (Int × (List OTRat) × (List (List Int)))) :=
  if (decide (v_i < ((row0_0.length : Nat) : Int))) = true then
    if 0 ≤ v_i ∧ v_i < (row0_0.length : Nat) then
    row0_0[(0 + v_i.toNat)]? >>= fun x3 =>
    (row0_0.set (0 + v_i.toNat) (⟨(⟨((v_k.tmod (3 : Int)) == (0 : Int)), x3.fNum.fMag⟩ : OTBigInt), x3.fDen⟩ : OTRat))[(0 + v_i.toNat)]? >>= fun x5 =>
    x5.fNum.fMag.elim
    (laws_markIntS ([] : List Int) (w64 (v_k + (1 : Int))) >>= fun r9 =>
      x5.fDen.elim
      (laws_markIntS ([] : List Int) r9 >>= fun r13 =>
        some (.inl (r13, w64 (v_i + (1 : Int)), row0_0.set (0 + v_i.toNat) (⟨(⟨((v_k.tmod (3 : Int)) == (0 : Int)), x3.fNum.fMag⟩ : OTBigInt), x3.fDen⟩ : OTRat), pool0)))
      fun y12 =>
      pool0[y12.1]? >>= fun l13 =>
      laws_markIntS_o r9 0 y12.2 l13 >>= fun r15 =>
      some (.inl (r15.1, w64 (v_i + (1 : Int)), row0_0.set (0 + v_i.toNat) (⟨(⟨((v_k.tmod (3 : Int)) == (0 : Int)), x3.fNum.fMag⟩ : OTBigInt), x3.fDen⟩ : OTRat), pool0.set y12.1 r15.2)))
    fun y8 =>
    pool0[y8.1]? >>= fun l9 =>
    laws_markIntS_o (w64 (v_k + (1 : Int))) 0 y8.2 l9 >>= fun r11 =>
    x5.fDen.elim
    (laws_markIntS ([] : List Int) r11.1 >>= fun r15 =>
      some (.inl (r15, w64 (v_i + (1 : Int)), row0_0.set (0 + v_i.toNat) (⟨(⟨((v_k.tmod (3 : Int)) == (0 : Int)), x3.fNum.fMag⟩ : OTBigInt), x3.fDen⟩ : OTRat), pool0.set y8.1 r11.2)))
    fun y14 =>
    (pool0.set y8.1 r11.2)[y14.1]? >>= fun l15 =>
    laws_markIntS_o r11.1 0 y14.2 l15 >>= fun r17 =>
    some (.inl (r17.1, w64 (v_i + (1 : Int)), row0_0.set (0 + v_i.toNat) (⟨(⟨((v_k.tmod (3 : Int)) == (0 : Int)), x3.fNum.fMag⟩ : OTBigInt), x3.fDen⟩ : OTRat), (pool0.set y8.1 r11.2).set y14.1 r17.2))
    else none
  else
    some (.inr (v_k, row0_0, pool0))

def laws_markRatS_o_L1  (v_k : Int) (v_i : Int) (row0_0 : (List OTRat)) (pool0 : (List (List Int))) : Option (Int × (List OTRat) × (List (List Int))) := iter (fun w : Int × Int × (List OTRat) × (List (List Int)) => laws_markRatS_o_L1_body  w.1 w.2.1 w.2.2.1 w.2.2.2) (v_k, v_i, row0_0, pool0)

set_option maxHeartbeats 4000000 in
theorem laws_markRatS_o_L1_body_ok  (v_k : Int) (v_i : Int) (row0_0 : (List OTRat)) (pool0 : (List (List Int))) : Wp (laws_markRatS_o_L1_body  v_k v_i row0_0 pool0) (Sum.elim
    (fun w => laws_markRatS_o_L1_V .normal (laws_markRatS_o_L1_head  v_k v_i row0_0 pool0) (laws_markRatS_o_L1_head  w.1 w.2.1 w.2.2.1 w.2.2.2))
    (fun r => laws_markRatS_o_L1_V (laws_markRatS_o_L1_ex r) (laws_markRatS_o_L1_head  v_k v_i row0_0 pool0) (laws_markRatS_o_L1_out  r))) := by
  unfold laws_markRatS_o_L1_body
  exact (let t1 : List TE := [.reg [nt, nt, nt, nt]];
    .ite (fun h1 =>
    .grd fun h2 =>
    .bnd fun x3 h4 =>
    .bnd fun x5 h6 =>
    (let t2 : List TE := t1 ++ ([.br true, .reg [nt, nt, nt, nt, nt, nt, (.el ((eOTRat 0 1) x3), true), (.el ((eOTRat 0 1) x3), true), (.el ((eOTRat 0 1) x3), true)], .reg [nt, nt, nt]] : List TE);
    have o3 := ((.c h1 (.c (by decide : (3 : Int) ≠ 0) (.c ((h2).1) (.c ((h2).2) (.c (map_get h4 : (row0_0.map (eOTRat 0 1))[(0 + v_i.toNat)]? = some ((eOTRat 0 1) x3)) (.c (map_get h4 : (row0_0.map (eOTRat 0 1))[(0 + v_i.toNat)]? = some ((eOTRat 0 1) x3)) (.c (map_get h4 : (row0_0.map (eOTRat 0 1))[(0 + v_i.toNat)]? = some ((eOTRat 0 1) x3)) (.c ((h2).1) (.c ((h2).2) (.c (get_prf (set_prf2 (show (row0_0.map (eOTRat 0 1)) = (row0_0.map (eOTRat 0 1)) from rfl) (0 + v_i.toNat) (⟨(⟨((v_k.tmod (3 : Int)) == (0 : Int)), x3.fNum.fMag⟩ : OTBigInt), x3.fDen⟩ : OTRat) (rfl : (setCells ((eOTRat 0 1) x3) 0 [.b ((v_k.tmod (3 : Int)) == (0 : Int))]) = (eOTRat 0 1) (⟨(⟨((v_k.tmod (3 : Int)) == (0 : Int)), x3.fNum.fMag⟩ : OTBigInt), x3.fDen⟩ : OTRat))) h6) (.c (get_prf (set_prf2 (show (row0_0.map (eOTRat 0 1)) = (row0_0.map (eOTRat 0 1)) from rfl) (0 + v_i.toNat) (⟨(⟨((v_k.tmod (3 : Int)) == (0 : Int)), x3.fNum.fMag⟩ : OTBigInt), x3.fDen⟩ : OTRat) (rfl : (setCells ((eOTRat 0 1) x3) 0 [.b ((v_k.tmod (3 : Int)) == (0 : Int))]) = (eOTRat 0 1) (⟨(⟨((v_k.tmod (3 : Int)) == (0 : Int)), x3.fNum.fMag⟩ : OTBigInt), x3.fDen⟩ : OTRat))) h6) (.c (get_prf (set_prf2 (show (row0_0.map (eOTRat 0 1)) = (row0_0.map (eOTRat 0 1)) from rfl) (0 + v_i.toNat) (⟨(⟨((v_k.tmod (3 : Int)) == (0 : Int)), x3.fNum.fMag⟩ : OTBigInt), x3.fDen⟩ : OTRat) (rfl : (setCells ((eOTRat 0 1) x3) 0 [.b ((v_k.tmod (3 : Int)) == (0 : Int))]) = (eOTRat 0 1) (⟨(⟨((v_k.tmod (3 : Int)) == (0 : Int)), x3.fNum.fMag⟩ : OTBigInt), x3.fDen⟩ : OTRat))) h6) .nil)))))))))))) : AllP _);
    .opt (fun h7 =>
    .bnd fun r9 h10 =>
    (let t4 : List TE := t2 ++ ([.reg [nt, nt, nt, (.el ((eOTRat 0 1) x5), true), (.el ((eOTRat 0 1) x5), true), (.el ((eOTRat 0 1) x5), true), nt, (.re 27 (.isl 1 []) (.call { ac := [ii, ii], r := .n .i64 r9, sc := true }), true), nt]] : List TE);
    have o5 := o3.app (.c (aH_none (rp := 0) (c := 1) (sz := 1) h7) (.c (laws_markIntS_ok ([] : List Int) (w64 (v_k + (1 : Int))) r9 h10) (.c (Sc.n _ _ : Sc (.n .i64 r9)) (.c ((h2).1) (.c ((h2).2) (.c (get_prf (set_prf2 (show (row0_0.map (eOTRat 0 1)) = (row0_0.map (eOTRat 0 1)) from rfl) (0 + v_i.toNat) (⟨(⟨((v_k.tmod (3 : Int)) == (0 : Int)), x3.fNum.fMag⟩ : OTBigInt), x3.fDen⟩ : OTRat) (rfl : (setCells ((eOTRat 0 1) x3) 0 [.b ((v_k.tmod (3 : Int)) == (0 : Int))]) = (eOTRat 0 1) (⟨(⟨((v_k.tmod (3 : Int)) == (0 : Int)), x3.fNum.fMag⟩ : OTBigInt), x3.fDen⟩ : OTRat))) h6) (.c (get_prf (set_prf2 (show (row0_0.map (eOTRat 0 1)) = (row0_0.map (eOTRat 0 1)) from rfl) (0 + v_i.toNat) (⟨(⟨((v_k.tmod (3 : Int)) == (0 : Int)), x3.fNum.fMag⟩ : OTBigInt), x3.fDen⟩ : OTRat) (rfl : (setCells ((eOTRat 0 1) x3) 0 [.b ((v_k.tmod (3 : Int)) == (0 : Int))]) = (eOTRat 0 1) (⟨(⟨((v_k.tmod (3 : Int)) == (0 : Int)), x3.fNum.fMag⟩ : OTBigInt), x3.fDen⟩ : OTRat))) h6) .nil)))))));
    .opt (fun h11 =>
    .bnd fun r13 h14 =>
    .ret ((okC_sound hmix (tape := t4 ++ ([.reg [nt, nt, nt, (.el ((eOTRat 0 1) x5), true), (.el ((eOTRat 0 1) x5), true), nt, (.re 34 (.isl 1 []) (.call { ac := [ii, ii], r := .n .i64 r13, sc := true }), true), nt], .reg [nt, nt, nt], .rst [0] [.rn (Ob.mk 3 ((row0_0.set (0 + v_i.toNat) (⟨(⟨((v_k.tmod (3 : Int)) == (0 : Int)), x3.fNum.fMag⟩ : OTBigInt), x3.fDen⟩ : OTRat)).map (eOTRat 0 1)) .live :: (pool0.map (poolO .live 1 eI)))] [(0, .c1 (.c0 (.len ((row0_0.set (0 + v_i.toNat) (⟨(⟨((v_k.tmod (3 : Int)) == (0 : Int)), x3.fNum.fMag⟩ : OTBigInt), x3.fDen⟩ : OTRat)).length)))), (1, ii), (5, ii)]] : List TE)) (nr := 1) (by kernel_rfl) (o5.app (.c (aH_none (rp := 0) (c := 1) (sz := 1) h11) (.c (laws_markIntS_ok ([] : List Int) r9 r13 h14) (.c (Sc.n _ _ : Sc (.n .i64 r13)) (.c ((rn_cons (rn_es (tgt := (findIx [0])) (f' := (eOTRat 0 1)) (set_prf2 (show (row0_0.map (eOTRat 0 1)) = (row0_0.map (eOTRat 0 1)) from rfl) (0 + v_i.toNat) (⟨(⟨((v_k.tmod (3 : Int)) == (0 : Int)), x3.fNum.fMag⟩ : OTBigInt), x3.fDen⟩ : OTRat) (rfl : (setCells ((eOTRat 0 1) x3) 0 [.b ((v_k.tmod (3 : Int)) == (0 : Int))]) = (eOTRat 0 1) (⟨(⟨((v_k.tmod (3 : Int)) == (0 : Int)), x3.fNum.fMag⟩ : OTBigInt), x3.fDen⟩ : OTRat))) (fun x => (eOTRat_rn (rfl : (findIx [0]) 0 = some 0)) x)) (rn_pool (tgt := (findIx [0])) (show (pool0.map (poolO .live 1 eI)) = (pool0.map (poolO .live 1 eI)) from rfl) (fun x => (nr_rn eI_nr) x))) : (Ob.mk 3 ((row0_0.set (0 + v_i.toNat) (⟨(⟨((v_k.tmod (3 : Int)) == (0 : Int)), x3.fNum.fMag⟩ : OTBigInt), x3.fDen⟩ : OTRat)).map (eOTRat 0 1)) .live :: (pool0.map (poolO .live 1 eI))) = List.map (rnO (findIx [0])) (Ob.mk 3 ((row0_0.map (eOTRat 0 1)).set (0 + v_i.toNat) (setCells ((eOTRat 0 1) x3) 0 [.b ((v_k.tmod (3 : Int)) == (0 : Int))])) .live :: (pool0.map (poolO .live 1 eI)))) (.c (len_set (show row0_0.length = row0_0.length from rfl) (0 + v_i.toNat) (⟨(⟨((v_k.tmod (3 : Int)) == (0 : Int)), x3.fNum.fMag⟩ : OTBigInt), x3.fDen⟩ : OTRat)) .nil)))))) (mkS_free _ _) : laws_markRatS_o_L1_V .normal (laws_markRatS_o_L1_head  v_k v_i row0_0 pool0) (laws_markRatS_o_L1_head  r13 (w64 (v_i + (1 : Int))) (row0_0.set (0 + v_i.toNat) (⟨(⟨((v_k.tmod (3 : Int)) == (0 : Int)), x3.fNum.fMag⟩ : OTBigInt), x3.fDen⟩ : OTRat)) pool0))))
    (fun y12 h11 =>
    .bnd fun l13 h14 =>
    .bnd fun r15 h16 =>
    .ret ((okC_sound hmix (tape := t4 ++ ([.reg [nt, nt, nt, (.el ((eOTRat 0 1) x5), true), (.el ((eOTRat 0 1) x5), true), nt, (.re 34 (.osl 0 (y12.1 + 1) 0 y12.2) (.call { mv := [.ob 0 (y12.1 + 1) (Ob.mk 1 (l13.map eI) .live)], rc := [.pure], ac := [.c1 (.c0 (.at_ 0 0 y12.2)), ii], r := .n .i64 r15.1, T1 := [[Ob.mk 1 (r15.2.map eI) .live]], rr := ii, rrc := [.pure], rds := [0], sc := false }), true), nt], .reg [nt, nt, nt], .rst [0] [.rn (Ob.mk 3 ((row0_0.set (0 + v_i.toNat) (⟨(⟨((v_k.tmod (3 : Int)) == (0 : Int)), x3.fNum.fMag⟩ : OTBigInt), x3.fDen⟩ : OTRat)).map (eOTRat 0 1)) .live :: ((pool0.set y12.1 r15.2).map (poolO .live 1 eI)))] [(0, .c1 (.c0 (.len ((row0_0.set (0 + v_i.toNat) (⟨(⟨((v_k.tmod (3 : Int)) == (0 : Int)), x3.fNum.fMag⟩ : OTBigInt), x3.fDen⟩ : OTRat)).length)))), (1, ii), (5, ii)]] : List TE)) (nr := 1) (by kernel_rfl) (o5.app (.c (aH_some (rp := 0) (c := 1) (sz := 1) h11) (.c (rfl : mvL [.ob 0 (y12.1 + 1) (Ob.mk 1 (l13.map eI) .live)] 0 0 = some (0, (y12.1 + 1))) (.c (rfl : y12.2 = y12.2) (.c (pl_at (show (pool0.map (poolO .live 1 eI)) = (pool0.map (poolO .live 1 eI)) from rfl) kl h14) (.c (pure_live eI_pure l13 : PureLive [Ob.mk 1 (l13.map eI) .live]) (.c (pure_live eI_pure r15.2 : PureLive [Ob.mk 1 (r15.2.map eI) .live]) (.c (laws_markIntS_o_ok r9 0 y12.2 l13 r15 h16) (.c ((rn_cons (rn_es (tgt := (findIx [0])) (f' := (eOTRat 0 1)) (set_prf2 (show (row0_0.map (eOTRat 0 1)) = (row0_0.map (eOTRat 0 1)) from rfl) (0 + v_i.toNat) (⟨(⟨((v_k.tmod (3 : Int)) == (0 : Int)), x3.fNum.fMag⟩ : OTBigInt), x3.fDen⟩ : OTRat) (rfl : (setCells ((eOTRat 0 1) x3) 0 [.b ((v_k.tmod (3 : Int)) == (0 : Int))]) = (eOTRat 0 1) (⟨(⟨((v_k.tmod (3 : Int)) == (0 : Int)), x3.fNum.fMag⟩ : OTBigInt), x3.fDen⟩ : OTRat))) (fun x => (eOTRat_rn (rfl : (findIx [0]) 0 = some 0)) x)) (rn_pool (tgt := (findIx [0])) (pl_set (show (pool0.map (poolO .live 1 eI)) = (pool0.map (poolO .live 1 eI)) from rfl) y12.1 (show (r15.2.map eI) = (r15.2.map eI) from rfl)) (fun x => (nr_rn eI_nr) x))) : (Ob.mk 3 ((row0_0.set (0 + v_i.toNat) (⟨(⟨((v_k.tmod (3 : Int)) == (0 : Int)), x3.fNum.fMag⟩ : OTBigInt), x3.fDen⟩ : OTRat)).map (eOTRat 0 1)) .live :: ((pool0.set y12.1 r15.2).map (poolO .live 1 eI))) = List.map (rnO (findIx [0])) (Ob.mk 3 ((row0_0.map (eOTRat 0 1)).set (0 + v_i.toNat) (setCells ((eOTRat 0 1) x3) 0 [.b ((v_k.tmod (3 : Int)) == (0 : Int))])) .live :: ((pool0.map (poolO .live 1 eI)).set y12.1 (Ob.mk 1 (r15.2.map eI) .live)))) (.c (len_set (show row0_0.length = row0_0.length from rfl) (0 + v_i.toNat) (⟨(⟨((v_k.tmod (3 : Int)) == (0 : Int)), x3.fNum.fMag⟩ : OTBigInt), x3.fDen⟩ : OTRat)) .nil)))))))))) (mkS_free _ _) : laws_markRatS_o_L1_V .normal (laws_markRatS_o_L1_head  v_k v_i row0_0 pool0) (laws_markRatS_o_L1_head  r15.1 (w64 (v_i + (1 : Int))) (row0_0.set (0 + v_i.toNat) (⟨(⟨((v_k.tmod (3 : Int)) == (0 : Int)), x3.fNum.fMag⟩ : OTBigInt), x3.fDen⟩ : OTRat)) (pool0.set y12.1 r15.2)))))))
    (fun y8 h7 =>
    .bnd fun l9 h10 =>
    .bnd fun r11 h12 =>
    (let t4 : List TE := t2 ++ ([.reg [nt, nt, nt, (.el ((eOTRat 0 1) x5), true), (.el ((eOTRat 0 1) x5), true), (.el ((eOTRat 0 1) x5), true), nt, (.re 27 (.osl 0 (y8.1 + 1) 0 y8.2) (.call { mv := [.ob 0 (y8.1 + 1) (Ob.mk 1 (l9.map eI) .live)], rc := [.pure], ac := [.c1 (.c0 (.at_ 0 0 y8.2)), ii], r := .n .i64 r11.1, T1 := [[Ob.mk 1 (r11.2.map eI) .live]], rr := ii, rrc := [.pure], rds := [0], sc := false }), true), nt]] : List TE);
    have o5 := o3.app (.c (aH_some (rp := 0) (c := 1) (sz := 1) h7) (.c (rfl : mvL [.ob 0 (y8.1 + 1) (Ob.mk 1 (l9.map eI) .live)] 0 0 = some (0, (y8.1 + 1))) (.c (rfl : y8.2 = y8.2) (.c (pl_at (show (pool0.map (poolO .live 1 eI)) = (pool0.map (poolO .live 1 eI)) from rfl) kl h10) (.c (pure_live eI_pure l9 : PureLive [Ob.mk 1 (l9.map eI) .live]) (.c (pure_live eI_pure r11.2 : PureLive [Ob.mk 1 (r11.2.map eI) .live]) (.c (laws_markIntS_o_ok (w64 (v_k + (1 : Int))) 0 y8.2 l9 r11 h12) (.c ((h2).1) (.c ((h2).2) (.c (get_prf (set_prf2 (show (row0_0.map (eOTRat 0 1)) = (row0_0.map (eOTRat 0 1)) from rfl) (0 + v_i.toNat) (⟨(⟨((v_k.tmod (3 : Int)) == (0 : Int)), x3.fNum.fMag⟩ : OTBigInt), x3.fDen⟩ : OTRat) (rfl : (setCells ((eOTRat 0 1) x3) 0 [.b ((v_k.tmod (3 : Int)) == (0 : Int))]) = (eOTRat 0 1) (⟨(⟨((v_k.tmod (3 : Int)) == (0 : Int)), x3.fNum.fMag⟩ : OTBigInt), x3.fDen⟩ : OTRat))) h6) (.c (get_prf (set_prf2 (show (row0_0.map (eOTRat 0 1)) = (row0_0.map (eOTRat 0 1)) from rfl) (0 + v_i.toNat) (⟨(⟨((v_k.tmod (3 : Int)) == (0 : Int)), x3.fNum.fMag⟩ : OTBigInt), x3.fDen⟩ : OTRat) (rfl : (setCells ((eOTRat 0 1) x3) 0 [.b ((v_k.tmod (3 : Int)) == (0 : Int))]) = (eOTRat 0 1) (⟨(⟨((v_k.tmod (3 : Int)) == (0 : Int)), x3.fNum.fMag⟩ : OTBigInt), x3.fDen⟩ : OTRat))) h6) .nil)))))))))));
    .opt (fun h13 =>
    .bnd fun r15 h16 =>
    .ret ((okC_sound hmix (tape := t4 ++ ([.reg [nt, nt, nt, (.el ((eOTRat 0 1) x5), true), (.el ((eOTRat 0 1) x5), true), nt, (.re 34 (.isl 1 []) (.call { ac := [ii, ii], r := .n .i64 r15, sc := true }), true), nt], .reg [nt, nt, nt], .rst [0] [.rn (Ob.mk 3 ((row0_0.set (0 + v_i.toNat) (⟨(⟨((v_k.tmod (3 : Int)) == (0 : Int)), x3.fNum.fMag⟩ : OTBigInt), x3.fDen⟩ : OTRat)).map (eOTRat 0 1)) .live :: ((pool0.set y8.1 r11.2).map (poolO .live 1 eI)))] [(0, .c1 (.c0 (.len ((row0_0.set (0 + v_i.toNat) (⟨(⟨((v_k.tmod (3 : Int)) == (0 : Int)), x3.fNum.fMag⟩ : OTBigInt), x3.fDen⟩ : OTRat)).length)))), (1, ii), (5, ii)]] : List TE)) (nr := 1) (by kernel_rfl) (o5.app (.c (aH_none (rp := 0) (c := 1) (sz := 1) h13) (.c (laws_markIntS_ok ([] : List Int) r11.1 r15 h16) (.c (Sc.n _ _ : Sc (.n .i64 r15)) (.c ((rn_cons (rn_es (tgt := (findIx [0])) (f' := (eOTRat 0 1)) (set_prf2 (show (row0_0.map (eOTRat 0 1)) = (row0_0.map (eOTRat 0 1)) from rfl) (0 + v_i.toNat) (⟨(⟨((v_k.tmod (3 : Int)) == (0 : Int)), x3.fNum.fMag⟩ : OTBigInt), x3.fDen⟩ : OTRat) (rfl : (setCells ((eOTRat 0 1) x3) 0 [.b ((v_k.tmod (3 : Int)) == (0 : Int))]) = (eOTRat 0 1) (⟨(⟨((v_k.tmod (3 : Int)) == (0 : Int)), x3.fNum.fMag⟩ : OTBigInt), x3.fDen⟩ : OTRat))) (fun x => (eOTRat_rn (rfl : (findIx [0]) 0 = some 0)) x)) (rn_pool (tgt := (findIx [0])) (pl_set (show (pool0.map (poolO .live 1 eI)) = (pool0.map (poolO .live 1 eI)) from rfl) y8.1 (show (r11.2.map eI) = (r11.2.map eI) from rfl)) (fun x => (nr_rn eI_nr) x))) : (Ob.mk 3 ((row0_0.set (0 + v_i.toNat) (⟨(⟨((v_k.tmod (3 : Int)) == (0 : Int)), x3.fNum.fMag⟩ : OTBigInt), x3.fDen⟩ : OTRat)).map (eOTRat 0 1)) .live :: ((pool0.set y8.1 r11.2).map (poolO .live 1 eI))) = List.map (rnO (findIx [0])) (Ob.mk 3 ((row0_0.map (eOTRat 0 1)).set (0 + v_i.toNat) (setCells ((eOTRat 0 1) x3) 0 [.b ((v_k.tmod (3 : Int)) == (0 : Int))])) .live :: ((pool0.map (poolO .live 1 eI)).set y8.1 (Ob.mk 1 (r11.2.map eI) .live)))) (.c (len_set (show row0_0.length = row0_0.length from rfl) (0 + v_i.toNat) (⟨(⟨((v_k.tmod (3 : Int)) == (0 : Int)), x3.fNum.fMag⟩ : OTBigInt), x3.fDen⟩ : OTRat)) .nil)))))) (mkS_free _ _) : laws_markRatS_o_L1_V .normal (laws_markRatS_o_L1_head  v_k v_i row0_0 pool0) (laws_markRatS_o_L1_head  r15 (w64 (v_i + (1 : Int))) (row0_0.set (0 + v_i.toNat) (⟨(⟨((v_k.tmod (3 : Int)) == (0 : Int)), x3.fNum.fMag⟩ : OTBigInt), x3.fDen⟩ : OTRat)) (pool0.set y8.1 r11.2)))))
    (fun y14 h13 =>
    .bnd fun l15 h16 =>
    .bnd fun r17 h18 =>
    .ret ((okC_sound hmix (tape := t4 ++ ([.reg [nt, nt, nt, (.el ((eOTRat 0 1) x5), true), (.el ((eOTRat 0 1) x5), true), nt, (.re 34 (.osl 0 (y14.1 + 1) 0 y14.2) (.call { mv := [.ob 0 (y14.1 + 1) (Ob.mk 1 (l15.map eI) .live)], rc := [.pure], ac := [.c1 (.c0 (.at_ 0 0 y14.2)), ii], r := .n .i64 r17.1, T1 := [[Ob.mk 1 (r17.2.map eI) .live]], rr := ii, rrc := [.pure], rds := [0], sc := false }), true), nt], .reg [nt, nt, nt], .rst [0] [.rn (Ob.mk 3 ((row0_0.set (0 + v_i.toNat) (⟨(⟨((v_k.tmod (3 : Int)) == (0 : Int)), x3.fNum.fMag⟩ : OTBigInt), x3.fDen⟩ : OTRat)).map (eOTRat 0 1)) .live :: (((pool0.set y8.1 r11.2).set y14.1 r17.2).map (poolO .live 1 eI)))] [(0, .c1 (.c0 (.len ((row0_0.set (0 + v_i.toNat) (⟨(⟨((v_k.tmod (3 : Int)) == (0 : Int)), x3.fNum.fMag⟩ : OTBigInt), x3.fDen⟩ : OTRat)).length)))), (1, ii), (5, ii)]] : List TE)) (nr := 1) (by kernel_rfl) (o5.app (.c (aH_some (rp := 0) (c := 1) (sz := 1) h13) (.c (rfl : mvL [.ob 0 (y14.1 + 1) (Ob.mk 1 (l15.map eI) .live)] 0 0 = some (0, (y14.1 + 1))) (.c (rfl : y14.2 = y14.2) (.c (pl_at (pl_set (show (pool0.map (poolO .live 1 eI)) = (pool0.map (poolO .live 1 eI)) from rfl) y8.1 (show (r11.2.map eI) = (r11.2.map eI) from rfl)) kl h16) (.c (pure_live eI_pure l15 : PureLive [Ob.mk 1 (l15.map eI) .live]) (.c (pure_live eI_pure r17.2 : PureLive [Ob.mk 1 (r17.2.map eI) .live]) (.c (laws_markIntS_o_ok r11.1 0 y14.2 l15 r17 h18) (.c ((rn_cons (rn_es (tgt := (findIx [0])) (f' := (eOTRat 0 1)) (set_prf2 (show (row0_0.map (eOTRat 0 1)) = (row0_0.map (eOTRat 0 1)) from rfl) (0 + v_i.toNat) (⟨(⟨((v_k.tmod (3 : Int)) == (0 : Int)), x3.fNum.fMag⟩ : OTBigInt), x3.fDen⟩ : OTRat) (rfl : (setCells ((eOTRat 0 1) x3) 0 [.b ((v_k.tmod (3 : Int)) == (0 : Int))]) = (eOTRat 0 1) (⟨(⟨((v_k.tmod (3 : Int)) == (0 : Int)), x3.fNum.fMag⟩ : OTBigInt), x3.fDen⟩ : OTRat))) (fun x => (eOTRat_rn (rfl : (findIx [0]) 0 = some 0)) x)) (rn_pool (tgt := (findIx [0])) (pl_set (pl_set (show (pool0.map (poolO .live 1 eI)) = (pool0.map (poolO .live 1 eI)) from rfl) y8.1 (show (r11.2.map eI) = (r11.2.map eI) from rfl)) y14.1 (show (r17.2.map eI) = (r17.2.map eI) from rfl)) (fun x => (nr_rn eI_nr) x))) : (Ob.mk 3 ((row0_0.set (0 + v_i.toNat) (⟨(⟨((v_k.tmod (3 : Int)) == (0 : Int)), x3.fNum.fMag⟩ : OTBigInt), x3.fDen⟩ : OTRat)).map (eOTRat 0 1)) .live :: (((pool0.set y8.1 r11.2).set y14.1 r17.2).map (poolO .live 1 eI))) = List.map (rnO (findIx [0])) (Ob.mk 3 ((row0_0.map (eOTRat 0 1)).set (0 + v_i.toNat) (setCells ((eOTRat 0 1) x3) 0 [.b ((v_k.tmod (3 : Int)) == (0 : Int))])) .live :: (((pool0.map (poolO .live 1 eI)).set y8.1 (Ob.mk 1 (r11.2.map eI) .live)).set y14.1 (Ob.mk 1 (r17.2.map eI) .live)))) (.c (len_set (show row0_0.length = row0_0.length from rfl) (0 + v_i.toNat) (⟨(⟨((v_k.tmod (3 : Int)) == (0 : Int)), x3.fNum.fMag⟩ : OTBigInt), x3.fDen⟩ : OTRat)) .nil)))))))))) (mkS_free _ _) : laws_markRatS_o_L1_V .normal (laws_markRatS_o_L1_head  v_k v_i row0_0 pool0) (laws_markRatS_o_L1_head  r17.1 (w64 (v_i + (1 : Int))) (row0_0.set (0 + v_i.toNat) (⟨(⟨((v_k.tmod (3 : Int)) == (0 : Int)), x3.fNum.fMag⟩ : OTBigInt), x3.fDen⟩ : OTRat)) ((pool0.set y8.1 r11.2).set y14.1 r17.2)))))))))
    (fun h1 =>
    .ret ((okC_sound hmix (tape := t1 ++ ([.br false, .rst [0] [.rn (Ob.mk 3 (row0_0.map (eOTRat 0 1)) .live :: (pool0.map (poolO .live 1 eI)))] [(1, ii)]] : List TE)) (nr := 1) (by kernel_rfl) (.c h1 (.c ((rn_cons (rn_es (tgt := (findIx [0])) (f' := (eOTRat 0 1)) (show (row0_0.map (eOTRat 0 1)) = (row0_0.map (eOTRat 0 1)) from rfl) (fun x => (eOTRat_rn (rfl : (findIx [0]) 0 = some 0)) x)) (rn_pool (tgt := (findIx [0])) (show (pool0.map (poolO .live 1 eI)) = (pool0.map (poolO .live 1 eI)) from rfl) (fun x => (nr_rn eI_nr) x))) : (Ob.mk 3 (row0_0.map (eOTRat 0 1)) .live :: (pool0.map (poolO .live 1 eI))) = List.map (rnO (findIx [0])) (Ob.mk 3 (row0_0.map (eOTRat 0 1)) .live :: (pool0.map (poolO .live 1 eI)))) .nil)) (mkS_free _ _) : laws_markRatS_o_L1_V (.exit 0) (laws_markRatS_o_L1_head  v_k v_i row0_0 pool0) (laws_markRatS_o_L1_out  (v_k, row0_0, pool0))))))

theorem laws_markRatS_o_L1_ok  (v_k : Int) (v_i : Int) (row0_0 : (List OTRat)) (pool0 : (List (List Int))) : ∀ r, laws_markRatS_o_L1  v_k v_i row0_0 pool0 = some r → VLoop PP 38 1 (nodeAt (bodyOf PP 14) [1, 0, 1, 0, 0]) (laws_markRatS_o_L1_ex r) (laws_markRatS_o_L1_head  v_k v_i row0_0 pool0) (laws_markRatS_o_L1_out  r) := fun r h =>
  iter_ok (head := fun w : Int × Int × (List OTRat) × (List (List Int)) => laws_markRatS_o_L1_head  w.1 w.2.1 w.2.2.1 w.2.2.2) (ex := laws_markRatS_o_L1_ex) (out := laws_markRatS_o_L1_out ) (by intro r; unfold laws_markRatS_o_L1_ex; split <;> simp) (fun w => laws_markRatS_o_L1_body_ok  w.1 w.2.1 w.2.2.1 w.2.2.2) (v_k, v_i, row0_0, pool0) r h

def laws_markRatS_o (v_k : Int) (rw0_0 : (List OTRat)) (pl0 : (List (List Int))) : Option (Int × (List OTRat) × (List (List Int))) :=
  laws_markRatS_o_L1 v_k 0 rw0_0 pl0 >>= fun r1 =>
  some (r1.1, r1.2.1, r1.2.2)

theorem laws_markRatS_o_ok (v_k : Int) (rw0_0 : (List OTRat)) (pl0 : (List (List Int))) : Wp (laws_markRatS_o v_k rw0_0 pl0) (fun a => Con PP 14 [.osl 0 0 0 rw0_0.length, .n .i64 v_k] [(Ob.mk 3 (rw0_0.map (eOTRat 0 1)) .live :: (pl0.map (poolO .live 1 eI)))] (.n .i64 a.1) [(Ob.mk 3 (a.2.1.map (eOTRat 0 1)) .live :: (a.2.2.map (poolO .live 1 eI)))]) := by
  unfold laws_markRatS_o
  exact .bnd fun r1 h2 =>
    .ret (runF_con hmix (tape := [.reg [nt], .reg [nt], .rst [0] [.rn (Ob.mk 3 (rw0_0.map (eOTRat 0 1)) .live :: (pl0.map (poolO .live 1 eI)))] [(0, ii), (1, ii), (5, ii)], .sub (.exit 0) [(1, .n .i64 r1.1)] [(Ob.mk 3 (r1.2.1.map (eOTRat 0 1)) .live :: (r1.2.2.map (poolO .live 1 eI)))], .reg [nt, nt]]) (mv := [0]) (rc := [.rn (Ob.mk 3 (r1.2.1.map (eOTRat 0 1)) .live :: (r1.2.2.map (poolO .live 1 eI)))]) (rr := ii) (by kernel_rfl) (.c ((rn_cons (rn_es (tgt := (findIx [0])) (f' := (eOTRat 0 1)) (show (rw0_0.map (eOTRat 0 1)) = (rw0_0.map (eOTRat 0 1)) from rfl) (fun x => (eOTRat_rn (rfl : (findIx [0]) 0 = some 0)) x)) (rn_pool (tgt := (findIx [0])) (show (pl0.map (poolO .live 1 eI)) = (pl0.map (poolO .live 1 eI)) from rfl) (fun x => (nr_rn eI_nr) x))) : (Ob.mk 3 (rw0_0.map (eOTRat 0 1)) .live :: (pl0.map (poolO .live 1 eI))) = List.map (rnO (findIx [0])) (Ob.mk 3 (rw0_0.map (eOTRat 0 1)) .live :: (pl0.map (poolO .live 1 eI)))) (.c ((laws_markRatS_o_L1_ok v_k 0 rw0_0 pl0 r1 h2).vex) (.c ((rn_cons (rn_es (tgt := (findIx [0])) (f' := (eOTRat 0 1)) (show (r1.2.1.map (eOTRat 0 1)) = (r1.2.1.map (eOTRat 0 1)) from rfl) (fun x => (eOTRat_rn (rfl : (findIx [0]) 0 = some 0)) x)) (rn_pool (tgt := (findIx [0])) (show (r1.2.2.map (poolO .live 1 eI)) = (r1.2.2.map (poolO .live 1 eI)) from rfl) (fun x => (nr_rn eI_nr) x))) : (Ob.mk 3 (r1.2.1.map (eOTRat 0 1)) .live :: (r1.2.2.map (poolO .live 1 eI))) = List.map (rnO (findIx [0])) (Ob.mk 3 (r1.2.1.map (eOTRat 0 1)) .live :: (r1.2.2.map (poolO .live 1 eI)))) .nil))))

def laws_markIntS_o'_L1_head  (v_k : Int) (v_i : Int) (row0 : (List Int)) : S := mkS [(0, .osl 0 0 0 row0.length), (1, .n .i64 v_k), (5, .n .i64 v_i)] [[Ob.mk 1 (row0.map eI) .live]]

def laws_markIntS_o'_L1_ex : (Int × (List Int)) → Exit
  | _ => .exit 0

def laws_markIntS_o'_L1_out  : (Int × (List Int)) → S
  | a => mkS [(1, .n .i64 a.1)] [[Ob.mk 1 (a.2.map eI) .live]]

abbrev laws_markIntS_o'_L1_V := VEx PP 19 1 (nodeAt (bodyOf PP 15) [1, 0, 1, 0, 0])

def laws_markIntS_o'_L1_body  (v_k : Int) (v_i : Int) (row0 : (List Int)) : Option ((Int × Int × (List Int)) ⊕ (Int × (List Int))) :=
  if (decide (v_i < ((row0.length : Nat) : Int))) = true then
    if 0 ≤ v_i ∧ v_i < (row0.length : Nat) then
    if (0 + v_i.toNat) < row0.length then
    some (.inl (w64 (v_k + (1 : Int)), w64 (v_i + (1 : Int)), row0.set (0 + v_i.toNat) v_k))
    else none
    else none
  else
    some (.inr (v_k, row0))

def laws_markIntS_o'_L1  (v_k : Int) (v_i : Int) (row0 : (List Int)) : Option (Int × (List Int)) := iter (fun w : Int × Int × (List Int) => laws_markIntS_o'_L1_body  w.1 w.2.1 w.2.2) (v_k, v_i, row0)

theorem laws_markIntS_o'_L1_body_ok  (v_k : Int) (v_i : Int) (row0 : (List Int)) : Wp (laws_markIntS_o'_L1_body  v_k v_i row0) (Sum.elim
    (fun w => laws_markIntS_o'_L1_V .normal (laws_markIntS_o'_L1_head  v_k v_i row0) (laws_markIntS_o'_L1_head  w.1 w.2.1 w.2.2))
    (fun r => laws_markIntS_o'_L1_V (laws_markIntS_o'_L1_ex r) (laws_markIntS_o'_L1_head  v_k v_i row0) (laws_markIntS_o'_L1_out  r))) := by
  unfold laws_markIntS_o'_L1_body
  exact (let t1 : List TE := [.reg [nt, nt, nt, nt]];
    .ite (fun h1 =>
    .grd fun h2 =>
    .grd fun h3 =>
    .ret ((okC_sound hmix (tape := t1 ++ ([.br true, .reg [nt, nt, nt, nt, (.bd, true)], .reg [nt, nt, nt], .reg [nt, nt, nt], .rst [0] [.as [Ob.mk 1 ((row0.set (0 + v_i.toNat) v_k).map eI) .live]] [(0, .c1 (.c0 (.len ((row0.set (0 + v_i.toNat) v_k).length)))), (1, ii), (5, ii)]] : List TE)) (nr := 1) (by kernel_rfl) (.c h1 (.c ((h2).1) (.c ((h2).2) (.c (lt_map h3 : (0 + v_i.toNat) < (row0.map eI).length) (.c (rfl : 1 = 1) (.c (row_prf (set_prf (show (row0.map eI) = (row0.map eI) from rfl) (0 + v_i.toNat) v_k) : [Ob.mk 1 ((row0.map eI).set (0 + v_i.toNat) [.n .i64 v_k]) .live] = [Ob.mk 1 ((row0.set (0 + v_i.toNat) v_k).map eI) .live]) (.c (pure_row eI_pure (row0.set (0 + v_i.toNat) v_k) : PureRow [Ob.mk 1 ((row0.set (0 + v_i.toNat) v_k).map eI) .live]) (.c (len_set (show row0.length = row0.length from rfl) (0 + v_i.toNat) v_k) .nil)))))))) (mkS_free _ _) : laws_markIntS_o'_L1_V .normal (laws_markIntS_o'_L1_head  v_k v_i row0) (laws_markIntS_o'_L1_head  (w64 (v_k + (1 : Int))) (w64 (v_i + (1 : Int))) (row0.set (0 + v_i.toNat) v_k)))))
    (fun h1 =>
    .ret ((okC_sound hmix (tape := t1 ++ ([.br false, .rst [0] [.pure] [(1, ii)]] : List TE)) (nr := 1) (by kernel_rfl) (.c h1 (.c (pure_row eI_pure row0 : PureRow [Ob.mk 1 (row0.map eI) .live]) .nil)) (mkS_free _ _) : laws_markIntS_o'_L1_V (.exit 0) (laws_markIntS_o'_L1_head  v_k v_i row0) (laws_markIntS_o'_L1_out  (v_k, row0))))))

theorem laws_markIntS_o'_L1_ok  (v_k : Int) (v_i : Int) (row0 : (List Int)) : ∀ r, laws_markIntS_o'_L1  v_k v_i row0 = some r → VLoop PP 19 1 (nodeAt (bodyOf PP 15) [1, 0, 1, 0, 0]) (laws_markIntS_o'_L1_ex r) (laws_markIntS_o'_L1_head  v_k v_i row0) (laws_markIntS_o'_L1_out  r) := fun r h =>
  iter_ok (head := fun w : Int × Int × (List Int) => laws_markIntS_o'_L1_head  w.1 w.2.1 w.2.2) (ex := laws_markIntS_o'_L1_ex) (out := laws_markIntS_o'_L1_out ) (by intro r; unfold laws_markIntS_o'_L1_ex; split <;> simp) (fun w => laws_markIntS_o'_L1_body_ok  w.1 w.2.1 w.2.2) (v_k, v_i, row0) r h

def laws_markIntS_o' (v_k : Int) (rw0 : (List Int)) : Option (Int × (List Int)) :=
  laws_markIntS_o'_L1 v_k 0 rw0 >>= fun r1 =>
  some (r1.1, r1.2)

theorem laws_markIntS_o'_ok (v_k : Int) (rw0 : (List Int)) : Wp (laws_markIntS_o' v_k rw0) (fun a => Con PP 15 [.osl 0 0 0 rw0.length, .n .i64 v_k] [[Ob.mk 1 (rw0.map eI) .live]] (.n .i64 a.1) [[Ob.mk 1 (a.2.map eI) .live]]) := by
  unfold laws_markIntS_o'
  exact .bnd fun r1 h2 =>
    .ret (runF_con hmix (tape := [.reg [nt], .reg [nt], .rst [0] [.pure] [(0, ii), (1, ii), (5, ii)], .sub (.exit 0) [(1, .n .i64 r1.1)] [[Ob.mk 1 (r1.2.map eI) .live]], .reg [nt, nt]]) (mv := [0]) (rc := [.pure]) (rr := ii) (by kernel_rfl) (.c (pure_row eI_pure rw0 : PureRow [Ob.mk 1 (rw0.map eI) .live]) (.c ((laws_markIntS_o'_L1_ok v_k 0 rw0 r1 h2).vex) (.c (pure_row eI_pure r1.2 : PureRow [Ob.mk 1 (r1.2.map eI) .live]) .nil))))

def laws_heldIntS_L1_head (v_a : (List Int)) (v_k : Int) (v_i : Int) : S := mkS [(0, .isl 1 (v_a.map eI)), (1, .n .i64 v_k), (5, .n .i64 v_i)] []

def laws_heldIntS_L1_ex : ((Int) ⊕ (Unit)) → Exit
  | .inl _ => .exit 0
  | .inr _ => .ret

def laws_heldIntS_L1_out (v_a : (List Int)) : ((Int) ⊕ (Unit)) → S
  | .inl a => mkS [(1, .n .i64 a)] []
  | .inr a => mkS [(4, .n .i64 (-1 : Int))] []

abbrev laws_heldIntS_L1_V := VEx PP 21 0 (nodeAt (bodyOf PP 16) [1, 0, 1, 0, 0])

def laws_heldIntS_L1_body (v_a : (List Int)) (v_k : Int) (v_i : Int) : Option ((Int × Int) ⊕ ((Int) ⊕ (Unit))) :=
  if (decide (v_i < (len_ eI v_a))) = true then
    if 0 ≤ v_i ∧ v_i < v_a.length then
    v_a[v_i.toNat]? >>= fun x3 =>
    if (x3 != v_k) = true then
      some (.inr (.inr ()))
    else
      some (.inl (w64 (v_k + (1 : Int)), w64 (v_i + (1 : Int))))
    else none
  else
    some (.inr (.inl v_k))

def laws_heldIntS_L1 (v_a : (List Int)) (v_k : Int) (v_i : Int) : Option ((Int) ⊕ (Unit)) := iter (fun w : Int × Int => laws_heldIntS_L1_body v_a w.1 w.2) (v_k, v_i)

theorem laws_heldIntS_L1_body_ok (v_a : (List Int)) (v_k : Int) (v_i : Int) : Wp (laws_heldIntS_L1_body v_a v_k v_i) (Sum.elim
    (fun w => laws_heldIntS_L1_V .normal (laws_heldIntS_L1_head v_a v_k v_i) (laws_heldIntS_L1_head v_a w.1 w.2))
    (fun r => laws_heldIntS_L1_V (laws_heldIntS_L1_ex r) (laws_heldIntS_L1_head v_a v_k v_i) (laws_heldIntS_L1_out v_a r))) := by
  unfold laws_heldIntS_L1_body
  exact (let t1 : List TE := [.reg [nt, nt, nt, nt]];
    .ite (fun h1 =>
    .grd fun h2 =>
    .bnd fun x3 h4 =>
    (let t2 : List TE := t1 ++ ([.br true, .reg [nt, nt, nt, (.el (eI x3), true), nt, nt]] : List TE);
    have o3 := ((.c h1 (.c ((h2).1) (.c (lt_mapI (h2).2 : v_i < ((v_a.map eI).length : Nat)) (.c (map_get h4 : (v_a.map eI)[v_i.toNat]? = some (eI x3)) .nil)))) : AllP _);
    .ite (fun h5 =>
    .ret ((okC_sound hmix (tape := t2 ++ ([.br true, .reg [nt], .rst [] [] [(4, ii)]] : List TE)) (nr := 0) (by kernel_rfl) (o3.app (.c h5 .nil)) (mkS_free _ _) : laws_heldIntS_L1_V (.ret) (laws_heldIntS_L1_head v_a v_k v_i) (laws_heldIntS_L1_out v_a (.inr ())))))
    (fun h5 =>
    .ret ((okC_sound hmix (tape := t2 ++ ([.br false, .reg [nt, nt, nt], .reg [nt, nt, nt], .rst [] [] [(0, ii), (1, ii), (5, ii)]] : List TE)) (nr := 0) (by kernel_rfl) (o3.app (.c h5 .nil)) (mkS_free _ _) : laws_heldIntS_L1_V .normal (laws_heldIntS_L1_head v_a v_k v_i) (laws_heldIntS_L1_head v_a (w64 (v_k + (1 : Int))) (w64 (v_i + (1 : Int)))))))))
    (fun h1 =>
    .ret ((okC_sound hmix (tape := t1 ++ ([.br false, .rst [] [] [(1, ii)]] : List TE)) (nr := 0) (by kernel_rfl) (.c h1 .nil) (mkS_free _ _) : laws_heldIntS_L1_V (.exit 0) (laws_heldIntS_L1_head v_a v_k v_i) (laws_heldIntS_L1_out v_a (.inl v_k))))))

theorem laws_heldIntS_L1_ok (v_a : (List Int)) (v_k : Int) (v_i : Int) : ∀ r, laws_heldIntS_L1 v_a v_k v_i = some r → VLoop PP 21 0 (nodeAt (bodyOf PP 16) [1, 0, 1, 0, 0]) (laws_heldIntS_L1_ex r) (laws_heldIntS_L1_head v_a v_k v_i) (laws_heldIntS_L1_out v_a r) := fun r h =>
  iter_ok (head := fun w : Int × Int => laws_heldIntS_L1_head v_a w.1 w.2) (ex := laws_heldIntS_L1_ex) (out := laws_heldIntS_L1_out v_a) (by intro r; unfold laws_heldIntS_L1_ex; split <;> simp) (fun w => laws_heldIntS_L1_body_ok v_a w.1 w.2) (v_k, v_i) r h

def laws_heldIntS (v_a : (List Int)) (v_k : Int) : Option Int :=
  laws_heldIntS_L1 v_a v_k 0 >>= fun r1 =>
  match r1 with
  | .inl a3 => (some a3)
  | .inr a3 => (some (-1))

theorem laws_heldIntS_ok (v_a : (List Int)) (v_k : Int) : Wp (laws_heldIntS v_a v_k) (fun r => Con PP 16 [.isl 1 (v_a.map eI), .n .i64 v_k] [] (.n .i64 r) []) := by
  unfold laws_heldIntS
  exact .bnd fun r1 h2 =>
    (let t1 : List TE := [.reg [nt], .reg [nt]];
    (by
    rcases r1 with a3 | a3
    · exact (.ret (runF_con0 hmix (tape := t1 ++ ([.rst [] [] [(0, ii), (1, ii), (5, ii)], .sub (.exit 0) [(1, .n .i64 a3)] [], .reg [nt, nt]] : List TE)) (rr := ii) (by kernel_rfl) (.c ((laws_heldIntS_L1_ok v_a v_k 0 (.inl a3) h2).vex) .nil)))
    · exact (.ret (runF_con0 hmix (tape := t1 ++ ([.rst [] [] [(0, ii), (1, ii), (5, ii)], .sub (.ret) [(4, .n .i64 (-1 : Int))] []] : List TE)) (rr := ii) (by kernel_rfl) (.c ((laws_heldIntS_L1_ok v_a v_k 0 (.inr a3) h2).vex) .nil)))))

def laws_FnExactNeedsOf (v_aS : TStructure) (v_aQ : (List TRat)) : Option Bool :=
  laws_szStructure v_aS 1048576 >>= fun r1 =>
  if (decide (r1 < (0 : Int))) = true then
    some true
  else
    laws_szRatS v_aQ r1 >>= fun r4 =>
    if (decide (r4 < (0 : Int))) = true then
      some true
    else
      laws_toStructure_o v_aS >>= fun r7 =>
      laws_toRatS_o v_aQ >>= fun r9 =>
      if r9.1.all (inOTRat r9.2) = true then
      spec_NeedsOf (⟨r7.1, r7.2⟩ : TStructure) (r9.1.map (vwOTRat r9.2)) >>= fun r12 =>
      impl_NeedsOf_o (⟨r7.1, r7.2⟩ : TStructure) (r9.1.map (vwOTRat r9.2)) >>= fun r14 =>
      match r14 with
      | .inl a16 => (laws_eqIntS a16 r12.1 >>= fun r17 =>
        if r17 = true then
          if (true == r12.2) = true then
            laws_eqStructure (⟨r7.1, r7.2⟩ : TStructure) (⟨r7.1, r7.2⟩ : TStructure) >>= fun r21 =>
            if r21 = true then
              laws_eqRatS (r9.1.map (vwOTRat r9.2)) (r9.1.map (vwOTRat r9.2)) >>= fun r24 =>
              if r24 = true then
                laws_markStructure_o 1 r7.1 r7.2 >>= fun r27 =>
                laws_markRatS_o r27.1 r9.1 r9.2 >>= fun r29 =>
                if (decide (r29.1 < (0 : Int))) = true then
                  some false
                else
                  laws_markIntS_o' 1 a16 >>= fun r32 =>
                  if 0 + a16.length ≤ r32.2.length then
                  laws_heldIntS ((r32.2.drop 0).take a16.length) 1 >>= fun r35 =>
                  if (decide (r35 < (0 : Int))) = true then
                    some false
                  else
                    if (r35 != r32.1) = true then
                      some false
                    else
                      some true
                  else none
              else
                some false
            else
              some false
          else
            some false
        else
          some false)
      | .inr a16 => (laws_eqIntS ([] : List Int) r12.1 >>= fun r17 =>
        if r17 = true then
          if (false == r12.2) = true then
            laws_eqStructure (⟨r7.1, r7.2⟩ : TStructure) (⟨r7.1, r7.2⟩ : TStructure) >>= fun r21 =>
            if r21 = true then
              laws_eqRatS (r9.1.map (vwOTRat r9.2)) (r9.1.map (vwOTRat r9.2)) >>= fun r24 =>
              if r24 = true then
                laws_markStructure_o 1 r7.1 r7.2 >>= fun r27 =>
                laws_markRatS_o r27.1 r9.1 r9.2 >>= fun r29 =>
                if (decide (r29.1 < (0 : Int))) = true then
                  some false
                else
                  laws_markIntS ([] : List Int) 1 >>= fun r32 =>
                  laws_heldIntS ([] : List Int) 1 >>= fun r34 =>
                  if (decide (r34 < (0 : Int))) = true then
                    some false
                  else
                    if (r34 != r32) = true then
                      some false
                    else
                      some true
              else
                some false
            else
              some false
          else
            some false
        else
          some false)
      else none

set_option maxHeartbeats 4000000 in
theorem laws_FnExactNeedsOf_ok (v_aS : TStructure) (v_aQ : (List TRat)) : Wp (laws_FnExactNeedsOf v_aS v_aQ) (fun r => Con PP 3 [.agg [.isl 4 (v_aS.fJoints.map eTJoint), .isl 3 (v_aS.fMembers.map eTMember)], .isl 3 (v_aQ.map eTRat)] [] (.b r) []) := by
  unfold laws_FnExactNeedsOf
  exact .bnd fun r1 h2 =>
    (let t1 : List TE := [.reg [nt, nt], .reg [nt], .reg [nt, nt, (.call { ac := [ii, ii], r := .n .i64 r1, sc := true }, true), nt], .reg [nt, nt]];
    have o2 := ((.c (laws_szStructure_ok v_aS 1048576 r1 h2) (.c (Sc.n _ _ : Sc (.n .i64 r1)) .nil)) : AllP _);
    .ite (fun h3 =>
    .ret (runF_con0 hmix (tape := t1 ++ ([.br true, .reg [nt]] : List TE)) (rr := ii) (by kernel_rfl) (o2.app (.c h3 .nil))))
    (fun h3 =>
    .bnd fun r4 h5 =>
    (let t3 : List TE := t1 ++ ([.br false, .reg [nt, nt, (.call { ac := [ii, ii], r := .n .i64 r4, sc := true }, true), nt], .reg [nt, nt]] : List TE);
    have o4 := o2.app (.c h3 (.c (laws_szRatS_ok v_aQ r1 r4 h5) (.c (Sc.n _ _ : Sc (.n .i64 r4)) .nil)));
    .ite (fun h6 =>
    .ret (runF_con0 hmix (tape := t3 ++ ([.br true, .reg [nt]] : List TE)) (rr := ii) (by kernel_rfl) (o4.app (.c h6 .nil))))
    (fun h6 =>
    .bnd fun r7 h8 =>
    .bnd fun r9 h10 =>
    .grd fun h11 =>
    .bnd fun r12 h13 =>
    .bnd fun r14 h15 =>
    (let t5 : List TE := t3 ++ ([.br false, .reg [nt, (.call { mv := [], rc := [], ac := [ii], r := .agg [.osl 0 0 0 r7.1.length, .osl 0 1 0 r7.2.length], T1 := [[Ob.mk 4 (r7.1.map eTJoint) .live, Ob.mk 3 (r7.2.map eTMember) .live]], rr := .c1 (.agg [.id, .id]), rrc := [.rn [Ob.mk 4 (r7.1.map eTJoint) .live, Ob.mk 3 (r7.2.map eTMember) .live]], rds := [], sc := true }, true), nt, (.call { mv := [], rc := [], ac := [ii], r := .osl 0 0 0 r9.1.length, T1 := [(Ob.mk 3 (r9.1.map (eOTRat 0 1)) .live :: (r9.2.map (poolO .live 1 eI)))], rr := ii, rrc := [.rn (Ob.mk 3 (r9.1.map (eOTRat 18 1)) .live :: (r9.2.map (poolO .live 1 eI)))], rds := [], sc := true }, true), (.fz 18 (.fz 16 (.call { ac := [.c1 (.agg [.sl (r7.1.map eTJoint), .sl (r7.2.map eTMember)]), .c1 (.c0 (.view 18 (Ob.mk 3 (r9.1.map (eOTRat 18 1)) .frz) ((r9.1.map (vwOTRat r9.2)).map eTRat)))], rds := [16, 18], r := .tup [.isl 1 (r12.1.map eI), .b r12.2], sc := false })), true), nt, nt, nt, nt, nt], .reg [nt, (.call { mv := [], rc := [], ac := [ii], r := .agg [.osl 0 0 0 r7.1.length, .osl 0 1 0 r7.2.length], T1 := [[Ob.mk 4 (r7.1.map eTJoint) .live, Ob.mk 3 (r7.2.map eTMember) .live]], rr := .c1 (.agg [.id, .id]), rrc := [.rn [Ob.mk 4 (r7.1.map eTJoint) .live, Ob.mk 3 (r7.2.map eTMember) .live]], rds := [], sc := true }, true), nt, nt], .reg [nt, (.call { mv := [], rc := [], ac := [ii], r := .osl 0 0 0 r9.1.length, T1 := [(Ob.mk 3 (r9.1.map (eOTRat 0 1)) .live :: (r9.2.map (poolO .live 1 eI)))], rr := ii, rrc := [.rn (Ob.mk 3 (r9.1.map (eOTRat 30 1)) .live :: (r9.2.map (poolO .live 1 eI)))], rds := [], sc := true }, true), nt]] : List TE);
    have o6 := o4.app (.c h6 (.c ((rn_cons (rn_es (tgt := (backL [.row 16])) (f' := eTJoint) (show (r7.1.map eTJoint) = (r7.1.map eTJoint) from rfl) (fun x => (nr_rn eTJoint_nr) x)) (rn_cons (rn_es (tgt := (backL [.row 16])) (f' := eTMember) (show (r7.2.map eTMember) = (r7.2.map eTMember) from rfl) (fun x => (nr_rn eTMember_nr) x)) rn_nil)) : [Ob.mk 4 (r7.1.map eTJoint) .live, Ob.mk 3 (r7.2.map eTMember) .live] = List.map (rnO (backL [.row 16])) [Ob.mk 4 (r7.1.map eTJoint) .live, Ob.mk 3 (r7.2.map eTMember) .live]) (.c ((live_cons rfl (live_cons rfl live_nil)) : LiveR [Ob.mk 4 (r7.1.map eTJoint) .live, Ob.mk 3 (r7.2.map eTMember) .live]) (.c (laws_toStructure_o_ok v_aS r7 h8) (.c (Sc.agg (sc_cons (Sc.osl _ _ _ _ : Sc (.osl 0 0 0 r7.1.length)) (sc_cons (Sc.osl _ _ _ _ : Sc (.osl 0 1 0 r7.2.length)) sc_nil)) : Sc (.agg [.osl 0 0 0 r7.1.length, .osl 0 1 0 r7.2.length])) (.c ((scT_cons (scR_cons (scO_es eTJoint_sc) (scR_cons (scO_es eTMember_sc) scR_nil)) scT_nil) : ScT [[Ob.mk 4 (r7.1.map eTJoint) .live, Ob.mk 3 (r7.2.map eTMember) .live]]) (.c ((rn_cons (rn_es (tgt := (backL [.row 18])) (f' := (eOTRat 18 1)) (show (r9.1.map (eOTRat 0 1)) = (r9.1.map (eOTRat 0 1)) from rfl) (fun x => (eOTRat_rn (rfl : (backL [.row 18]) 0 = some 18)) x)) (rn_pool (tgt := (backL [.row 18])) (show (r9.2.map (poolO .live 1 eI)) = (r9.2.map (poolO .live 1 eI)) from rfl) (fun x => (nr_rn eI_nr) x))) : (Ob.mk 3 (r9.1.map (eOTRat 18 1)) .live :: (r9.2.map (poolO .live 1 eI))) = List.map (rnO (backL [.row 18])) (Ob.mk 3 (r9.1.map (eOTRat 0 1)) .live :: (r9.2.map (poolO .live 1 eI)))) (.c ((live_cons rfl (live_pool (show (r9.2.map (poolO .live 1 eI)) = (r9.2.map (poolO .live 1 eI)) from rfl))) : LiveR (Ob.mk 3 (r9.1.map (eOTRat 0 1)) .live :: (r9.2.map (poolO .live 1 eI)))) (.c (laws_toRatS_o_ok v_aQ r9 h10) (.c (Sc.osl _ _ _ _ : Sc (.osl 0 0 0 r9.1.length)) (.c ((scT_cons (scR_cons (scO_es (eOTRat_sc _ _)) (scR_pool eI_sc)) scT_nil) : ScT [(Ob.mk 3 (r9.1.map (eOTRat 0 1)) .live :: (r9.2.map (poolO .live 1 eI)))]) (.c (snap_full (show (r7.1.map eTJoint) = (r7.1.map eTJoint) from rfl) (show r7.1.length = r7.1.length from rfl)) (.c (fit_full (show (r7.1.map eTJoint) = (r7.1.map eTJoint) from rfl) (show r7.1.length = r7.1.length from rfl)) (.c (pure_map eTJoint_pure r7.1) (.c (snap_full (show (r7.2.map eTMember) = (r7.2.map eTMember) from rfl) (show r7.2.length = r7.2.length from rfl)) (.c (fit_full (show (r7.2.map eTMember) = (r7.2.map eTMember) from rfl) (show r7.2.length = r7.2.length from rfl)) (.c (pure_map eTMember_pure r7.2) (.c (rfl : obIn (some (Ob.mk 3 (r9.1.map (eOTRat 18 1)) .frz :: (frzRow (r9.2.map (poolO .live 1 eI))))) 0 = some (Ob.mk 3 (r9.1.map (eOTRat 18 1)) .frz)) (.c (rfl : _ = true) (.c (fit_full (show (r9.1.map (eOTRat 18 1)) = (r9.1.map (eOTRat 18 1)) from rfl) (show r9.1.length = r9.1.length from rfl)) (.c (pure_map eTRat_pure (r9.1.map (vwOTRat r9.2))) (.c (dv_map (rp := 18) (prow := [Ob.mk 3 (r9.1.map (eOTRat 18 1)) .frz] ++ (frzRow (r9.2.map (poolO .live 1 eI)))) (al := isFrz) (sz := 3) (g := eTRat) (show (r9.1.map (eOTRat 18 1)) = (r9.1.map (eOTRat 18 1)) from rfl) (fun _ => rfl) (fun x hx => (dvOTRat (rp := 18) (c := 1) (al := isFrz) (heads := [Ob.mk 3 (r9.1.map (eOTRat 18 1)) .frz]) (pl_frz (show (r9.2.map (poolO .live 1 eI)) = (r9.2.map (poolO .live 1 eI)) from rfl)) rfl kf rfl (all_in h11 x hx))) (show r9.1.length = r9.1.length from rfl)) (.c (spec_NeedsOf_ok (⟨r7.1, r7.2⟩ : TStructure) (r9.1.map (vwOTRat r9.2)) r12 h13) (.c ((rn_cons (rn_es (tgt := (backL [.row 26])) (f' := eTJoint) (show (r7.1.map eTJoint) = (r7.1.map eTJoint) from rfl) (fun x => (nr_rn eTJoint_nr) x)) (rn_cons (rn_es (tgt := (backL [.row 26])) (f' := eTMember) (show (r7.2.map eTMember) = (r7.2.map eTMember) from rfl) (fun x => (nr_rn eTMember_nr) x)) rn_nil)) : [Ob.mk 4 (r7.1.map eTJoint) .live, Ob.mk 3 (r7.2.map eTMember) .live] = List.map (rnO (backL [.row 26])) [Ob.mk 4 (r7.1.map eTJoint) .live, Ob.mk 3 (r7.2.map eTMember) .live]) (.c ((live_cons rfl (live_cons rfl live_nil)) : LiveR [Ob.mk 4 (r7.1.map eTJoint) .live, Ob.mk 3 (r7.2.map eTMember) .live]) (.c (laws_toStructure_o_ok v_aS r7 h8) (.c (Sc.agg (sc_cons (Sc.osl _ _ _ _ : Sc (.osl 0 0 0 r7.1.length)) (sc_cons (Sc.osl _ _ _ _ : Sc (.osl 0 1 0 r7.2.length)) sc_nil)) : Sc (.agg [.osl 0 0 0 r7.1.length, .osl 0 1 0 r7.2.length])) (.c ((scT_cons (scR_cons (scO_es eTJoint_sc) (scR_cons (scO_es eTMember_sc) scR_nil)) scT_nil) : ScT [[Ob.mk 4 (r7.1.map eTJoint) .live, Ob.mk 3 (r7.2.map eTMember) .live]]) (.c ((rn_cons (rn_es (tgt := (backL [.row 30])) (f' := (eOTRat 30 1)) (show (r9.1.map (eOTRat 0 1)) = (r9.1.map (eOTRat 0 1)) from rfl) (fun x => (eOTRat_rn (rfl : (backL [.row 30]) 0 = some 30)) x)) (rn_pool (tgt := (backL [.row 30])) (show (r9.2.map (poolO .live 1 eI)) = (r9.2.map (poolO .live 1 eI)) from rfl) (fun x => (nr_rn eI_nr) x))) : (Ob.mk 3 (r9.1.map (eOTRat 30 1)) .live :: (r9.2.map (poolO .live 1 eI))) = List.map (rnO (backL [.row 30])) (Ob.mk 3 (r9.1.map (eOTRat 0 1)) .live :: (r9.2.map (poolO .live 1 eI)))) (.c ((live_cons rfl (live_pool (show (r9.2.map (poolO .live 1 eI)) = (r9.2.map (poolO .live 1 eI)) from rfl))) : LiveR (Ob.mk 3 (r9.1.map (eOTRat 0 1)) .live :: (r9.2.map (poolO .live 1 eI)))) (.c (laws_toRatS_o_ok v_aQ r9 h10) (.c (Sc.osl _ _ _ _ : Sc (.osl 0 0 0 r9.1.length)) (.c ((scT_cons (scR_cons (scO_es (eOTRat_sc _ _)) (scR_pool eI_sc)) scT_nil) : ScT [(Ob.mk 3 (r9.1.map (eOTRat 0 1)) .live :: (r9.2.map (poolO .live 1 eI)))]) .nil)))))))))))))))))))))))))))))))));
    (by
    rcases r14 with a16 | a16
    · exact (.bnd fun r17 h18 =>
    (let t7 : List TE := t5 ++ ([.reg [nt, nt, (.call { mv := [], rc := [], ac := [.c1 (.agg [.sl (r7.1.map eTJoint), .sl (r7.2.map eTMember)]), .c1 (.c0 (.view 30 (Ob.mk 3 (r9.1.map (eOTRat 30 1)) .live) ((r9.1.map (vwOTRat r9.2)).map eTRat)))], r := .tup [.osl 0 0 0 a16.length, .b true], T1 := [[Ob.mk 1 (a16.map eI) .live]], rr := .comp [.c0 .id, .c0 .id], rrc := [.pure], rds := [26, 30], sc := true }, true), nt, nt, nt, nt, nt]] : List TE);
    have o8 := o6.app (.c (snap_full (show (r7.1.map eTJoint) = (r7.1.map eTJoint) from rfl) (show r7.1.length = r7.1.length from rfl)) (.c (fit_full (show (r7.1.map eTJoint) = (r7.1.map eTJoint) from rfl) (show r7.1.length = r7.1.length from rfl)) (.c (pure_map eTJoint_pure r7.1) (.c (snap_full (show (r7.2.map eTMember) = (r7.2.map eTMember) from rfl) (show r7.2.length = r7.2.length from rfl)) (.c (fit_full (show (r7.2.map eTMember) = (r7.2.map eTMember) from rfl) (show r7.2.length = r7.2.length from rfl)) (.c (pure_map eTMember_pure r7.2) (.c (rfl : obIn (some (Ob.mk 3 (r9.1.map (eOTRat 30 1)) .live :: (r9.2.map (poolO .live 1 eI)))) 0 = some (Ob.mk 3 (r9.1.map (eOTRat 30 1)) .live)) (.c (rfl : _ = true) (.c (fit_full (show (r9.1.map (eOTRat 30 1)) = (r9.1.map (eOTRat 30 1)) from rfl) (show r9.1.length = r9.1.length from rfl)) (.c (pure_map eTRat_pure (r9.1.map (vwOTRat r9.2))) (.c (dv_map (rp := 30) (prow := [Ob.mk 3 (r9.1.map (eOTRat 30 1)) .live] ++ (r9.2.map (poolO .live 1 eI))) (al := isAny) (sz := 3) (g := eTRat) (show (r9.1.map (eOTRat 30 1)) = (r9.1.map (eOTRat 30 1)) from rfl) (fun _ => rfl) (fun x hx => (dvOTRat (rp := 30) (c := 1) (al := isAny) (heads := [Ob.mk 3 (r9.1.map (eOTRat 30 1)) .live]) (show (r9.2.map (poolO .live 1 eI)) = (r9.2.map (poolO .live 1 eI)) from rfl) rfl kl rfl (all_in h11 x hx))) (show r9.1.length = r9.1.length from rfl)) (.c (pure_live eI_pure a16 : PureLive [Ob.mk 1 (a16.map eI) .live]) (.c (impl_NeedsOf_o_ok (⟨r7.1, r7.2⟩ : TStructure) (r9.1.map (vwOTRat r9.2)) (.inl a16) h15) (.c (sc_tup (sc_cons (Sc.osl _ _ _ _ : Sc (.osl 0 0 0 a16.length)) (sc_cons (Sc.b _ : Sc (.b true)) sc_nil)) : Sc (.tup [.osl 0 0 0 a16.length, .b true])) (.c ((scT_cons (scR_cons (scO_es eI_sc) scR_nil) scT_nil) : ScT [[Ob.mk 1 (a16.map eI) .live]]) (.c (snap_full (show (a16.map eI) = (a16.map eI) from rfl) (show a16.length = a16.length from rfl)) (.c (fit_full (show (a16.map eI) = (a16.map eI) from rfl) (show a16.length = a16.length from rfl)) (.c (pure_map eI_pure a16) (.c (laws_eqIntS_ok a16 r12.1 r17 h18) (.c (Sc.b _ : Sc (.b r17)) .nil))))))))))))))))))));
    .ite (fun h19 =>
    (let t9 : List TE := t7 ++ ([.reg [nt, nt, (.call { ac := [.c1 (.c0 (.sl (a16.map eI))), ii], rds := [34], r := .b r17, sc := true }, true), nt, nt, nt, nt, nt, (.br false, true)]] : List TE);
    have o10 := o8.app (.c (not_t h19) (.c (not_t h19) (.c (not_t h19) (.c (not_t h19) .nil))));
    .ite (fun h20 =>
    .bnd fun r21 h22 =>
    (let t11 : List TE := t9 ++ ([.br false, .reg [nt, nt, (.call { mv := [], rc := [], ac := [ii], r := .agg [.osl 0 0 0 r7.1.length, .osl 0 1 0 r7.2.length], T1 := [[Ob.mk 4 (r7.1.map eTJoint) .live, Ob.mk 3 (r7.2.map eTMember) .live]], rr := .c1 (.agg [.id, .id]), rrc := [.rn [Ob.mk 4 (r7.1.map eTJoint) .live, Ob.mk 3 (r7.2.map eTMember) .live]], rds := [], sc := true }, true), (.call { ac := [.c1 (.agg [.sl (r7.1.map eTJoint), .sl (r7.2.map eTMember)]), .c1 (.agg [.sl (r7.1.map eTJoint), .sl (r7.2.map eTMember)])], rds := [26, 51], r := .b r21, sc := true }, true), nt]] : List TE);
    have o12 := o10.app (.c (not_t h20) (.c ((rn_cons (rn_es (tgt := (backL [.row 51])) (f' := eTJoint) (show (r7.1.map eTJoint) = (r7.1.map eTJoint) from rfl) (fun x => (nr_rn eTJoint_nr) x)) (rn_cons (rn_es (tgt := (backL [.row 51])) (f' := eTMember) (show (r7.2.map eTMember) = (r7.2.map eTMember) from rfl) (fun x => (nr_rn eTMember_nr) x)) rn_nil)) : [Ob.mk 4 (r7.1.map eTJoint) .live, Ob.mk 3 (r7.2.map eTMember) .live] = List.map (rnO (backL [.row 51])) [Ob.mk 4 (r7.1.map eTJoint) .live, Ob.mk 3 (r7.2.map eTMember) .live]) (.c ((live_cons rfl (live_cons rfl live_nil)) : LiveR [Ob.mk 4 (r7.1.map eTJoint) .live, Ob.mk 3 (r7.2.map eTMember) .live]) (.c (laws_toStructure_o_ok v_aS r7 h8) (.c (Sc.agg (sc_cons (Sc.osl _ _ _ _ : Sc (.osl 0 0 0 r7.1.length)) (sc_cons (Sc.osl _ _ _ _ : Sc (.osl 0 1 0 r7.2.length)) sc_nil)) : Sc (.agg [.osl 0 0 0 r7.1.length, .osl 0 1 0 r7.2.length])) (.c ((scT_cons (scR_cons (scO_es eTJoint_sc) (scR_cons (scO_es eTMember_sc) scR_nil)) scT_nil) : ScT [[Ob.mk 4 (r7.1.map eTJoint) .live, Ob.mk 3 (r7.2.map eTMember) .live]]) (.c (snap_full (show (r7.1.map eTJoint) = (r7.1.map eTJoint) from rfl) (show r7.1.length = r7.1.length from rfl)) (.c (fit_full (show (r7.1.map eTJoint) = (r7.1.map eTJoint) from rfl) (show r7.1.length = r7.1.length from rfl)) (.c (pure_map eTJoint_pure r7.1) (.c (snap_full (show (r7.2.map eTMember) = (r7.2.map eTMember) from rfl) (show r7.2.length = r7.2.length from rfl)) (.c (fit_full (show (r7.2.map eTMember) = (r7.2.map eTMember) from rfl) (show r7.2.length = r7.2.length from rfl)) (.c (pure_map eTMember_pure r7.2) (.c (snap_full (show (r7.1.map eTJoint) = (r7.1.map eTJoint) from rfl) (show r7.1.length = r7.1.length from rfl)) (.c (fit_full (show (r7.1.map eTJoint) = (r7.1.map eTJoint) from rfl) (show r7.1.length = r7.1.length from rfl)) (.c (pure_map eTJoint_pure r7.1) (.c (snap_full (show (r7.2.map eTMember) = (r7.2.map eTMember) from rfl) (show r7.2.length = r7.2.length from rfl)) (.c (fit_full (show (r7.2.map eTMember) = (r7.2.map eTMember) from rfl) (show r7.2.length = r7.2.length from rfl)) (.c (pure_map eTMember_pure r7.2) (.c (laws_eqStructure_ok (⟨r7.1, r7.2⟩ : TStructure) (⟨r7.1, r7.2⟩ : TStructure) r21 h22) (.c (Sc.b _ : Sc (.b r21)) .nil))))))))))))))))))));
    .ite (fun h23 =>
    .bnd fun r24 h25 =>
    (let t13 : List TE := t11 ++ ([.br false, .reg [nt, nt, (.call { mv := [], rc := [], ac := [ii], r := .osl 0 0 0 r9.1.length, T1 := [(Ob.mk 3 (r9.1.map (eOTRat 0 1)) .live :: (r9.2.map (poolO .live 1 eI)))], rr := ii, rrc := [.rn (Ob.mk 3 (r9.1.map (eOTRat 56 1)) .live :: (r9.2.map (poolO .live 1 eI)))], rds := [], sc := true }, true), (.call { ac := [.c1 (.c0 (.view 30 (Ob.mk 3 (r9.1.map (eOTRat 30 1)) .live) ((r9.1.map (vwOTRat r9.2)).map eTRat))), .c1 (.c0 (.view 56 (Ob.mk 3 (r9.1.map (eOTRat 56 1)) .live) ((r9.1.map (vwOTRat r9.2)).map eTRat)))], rds := [30, 56], r := .b r24, sc := true }, true), nt]] : List TE);
    have o14 := o12.app (.c (not_t h23) (.c ((rn_cons (rn_es (tgt := (backL [.row 56])) (f' := (eOTRat 56 1)) (show (r9.1.map (eOTRat 0 1)) = (r9.1.map (eOTRat 0 1)) from rfl) (fun x => (eOTRat_rn (rfl : (backL [.row 56]) 0 = some 56)) x)) (rn_pool (tgt := (backL [.row 56])) (show (r9.2.map (poolO .live 1 eI)) = (r9.2.map (poolO .live 1 eI)) from rfl) (fun x => (nr_rn eI_nr) x))) : (Ob.mk 3 (r9.1.map (eOTRat 56 1)) .live :: (r9.2.map (poolO .live 1 eI))) = List.map (rnO (backL [.row 56])) (Ob.mk 3 (r9.1.map (eOTRat 0 1)) .live :: (r9.2.map (poolO .live 1 eI)))) (.c ((live_cons rfl (live_pool (show (r9.2.map (poolO .live 1 eI)) = (r9.2.map (poolO .live 1 eI)) from rfl))) : LiveR (Ob.mk 3 (r9.1.map (eOTRat 0 1)) .live :: (r9.2.map (poolO .live 1 eI)))) (.c (laws_toRatS_o_ok v_aQ r9 h10) (.c (Sc.osl _ _ _ _ : Sc (.osl 0 0 0 r9.1.length)) (.c ((scT_cons (scR_cons (scO_es (eOTRat_sc _ _)) (scR_pool eI_sc)) scT_nil) : ScT [(Ob.mk 3 (r9.1.map (eOTRat 0 1)) .live :: (r9.2.map (poolO .live 1 eI)))]) (.c (rfl : obIn (some (Ob.mk 3 (r9.1.map (eOTRat 30 1)) .live :: (r9.2.map (poolO .live 1 eI)))) 0 = some (Ob.mk 3 (r9.1.map (eOTRat 30 1)) .live)) (.c (rfl : _ = true) (.c (fit_full (show (r9.1.map (eOTRat 30 1)) = (r9.1.map (eOTRat 30 1)) from rfl) (show r9.1.length = r9.1.length from rfl)) (.c (pure_map eTRat_pure (r9.1.map (vwOTRat r9.2))) (.c (dv_map (rp := 30) (prow := [Ob.mk 3 (r9.1.map (eOTRat 30 1)) .live] ++ (r9.2.map (poolO .live 1 eI))) (al := isAny) (sz := 3) (g := eTRat) (show (r9.1.map (eOTRat 30 1)) = (r9.1.map (eOTRat 30 1)) from rfl) (fun _ => rfl) (fun x hx => (dvOTRat (rp := 30) (c := 1) (al := isAny) (heads := [Ob.mk 3 (r9.1.map (eOTRat 30 1)) .live]) (show (r9.2.map (poolO .live 1 eI)) = (r9.2.map (poolO .live 1 eI)) from rfl) rfl kl rfl (all_in h11 x hx))) (show r9.1.length = r9.1.length from rfl)) (.c (rfl : obIn (some (Ob.mk 3 (r9.1.map (eOTRat 56 1)) .live :: (r9.2.map (poolO .live 1 eI)))) 0 = some (Ob.mk 3 (r9.1.map (eOTRat 56 1)) .live)) (.c (rfl : _ = true) (.c (fit_full (show (r9.1.map (eOTRat 56 1)) = (r9.1.map (eOTRat 56 1)) from rfl) (show r9.1.length = r9.1.length from rfl)) (.c (pure_map eTRat_pure (r9.1.map (vwOTRat r9.2))) (.c (dv_map (rp := 56) (prow := [Ob.mk 3 (r9.1.map (eOTRat 56 1)) .live] ++ (r9.2.map (poolO .live 1 eI))) (al := isAny) (sz := 3) (g := eTRat) (show (r9.1.map (eOTRat 56 1)) = (r9.1.map (eOTRat 56 1)) from rfl) (fun _ => rfl) (fun x hx => (dvOTRat (rp := 56) (c := 1) (al := isAny) (heads := [Ob.mk 3 (r9.1.map (eOTRat 56 1)) .live]) (show (r9.2.map (poolO .live 1 eI)) = (r9.2.map (poolO .live 1 eI)) from rfl) rfl kl rfl (all_in h11 x hx))) (show r9.1.length = r9.1.length from rfl)) (.c (laws_eqRatS_ok (r9.1.map (vwOTRat r9.2)) (r9.1.map (vwOTRat r9.2)) r24 h25) (.c (Sc.b _ : Sc (.b r24)) .nil))))))))))))))))));
    .ite (fun h26 =>
    .bnd fun r27 h28 =>
    .bnd fun r29 h30 =>
    (let t15 : List TE := t13 ++ ([.br false, .reg [nt], .reg [nt, nt, (.call { mv := [.ob 26 0 (Ob.mk 4 (r7.1.map eTJoint) .live), .ob 26 1 (Ob.mk 3 (r7.2.map eTMember) .live)], rc := [.pure, .pure], ac := [.c1 (.agg [.at_ 0 0 r7.1.length, .at_ 1 0 r7.2.length]), ii], r := .n .i64 r27.1, T1 := [[Ob.mk 4 (r27.2.1.map eTJoint) .live], [Ob.mk 3 (r27.2.2.map eTMember) .live]], rr := ii, rrc := [.pure, .pure], rds := [26], sc := false }, true), nt], .reg [nt, nt, (.call { mv := [.row 30], rc := [.rn (Ob.mk 3 (r9.1.map (eOTRat 0 1)) .live :: (r9.2.map (poolO .live 1 eI)))], ac := [ii, ii], r := .n .i64 r29.1, T1 := [(Ob.mk 3 (r29.2.1.map (eOTRat 0 1)) .live :: (r29.2.2.map (poolO .live 1 eI)))], rr := ii, rrc := [.rn (Ob.mk 3 (r29.2.1.map (eOTRat 30 1)) .live :: (r29.2.2.map (poolO .live 1 eI)))], rds := [30], sc := false }, true), nt]] : List TE);
    have o16 := o14.app (.c (not_t h26) (.c (by decide : 0 ≠ 1) (.c (rfl : mvL [.ob 26 0 (Ob.mk 4 (r7.1.map eTJoint) .live), .ob 26 1 (Ob.mk 3 (r7.2.map eTMember) .live)] 0 0 = some (26, 0)) (.c (rfl : r7.1.length = r7.1.length) (.c (rfl : mvL [.ob 26 0 (Ob.mk 4 (r7.1.map eTJoint) .live), .ob 26 1 (Ob.mk 3 (r7.2.map eTMember) .live)] 1 0 = some (26, 1)) (.c (rfl : r7.2.length = r7.2.length) (.c (rfl : obIn (some [Ob.mk 4 (r7.1.map eTJoint) .live, Ob.mk 3 (r7.2.map eTMember) .live]) 0 = some (Ob.mk 4 (r7.1.map eTJoint) .live)) (.c (pure_live eTJoint_pure r7.1 : PureLive [Ob.mk 4 (r7.1.map eTJoint) .live]) (.c (rfl : obIn (some [Ob.mk 4 (r7.1.map eTJoint) .live, Ob.mk 3 (r7.2.map eTMember) .live]) 1 = some (Ob.mk 3 (r7.2.map eTMember) .live)) (.c (pure_live eTMember_pure r7.2 : PureLive [Ob.mk 3 (r7.2.map eTMember) .live]) (.c (pure_live eTJoint_pure r27.2.1 : PureLive [Ob.mk 4 (r27.2.1.map eTJoint) .live]) (.c (pure_live eTMember_pure r27.2.2 : PureLive [Ob.mk 3 (r27.2.2.map eTMember) .live]) (.c (laws_markStructure_o_ok 1 r7.1 r7.2 r27 h28) (.c ((rn_cons (rn_es (tgt := (tgtL 0 [.row 30])) (f' := (eOTRat 0 1)) (show (r9.1.map (eOTRat 30 1)) = (r9.1.map (eOTRat 30 1)) from rfl) (fun x => (eOTRat_rn (rfl : (tgtL 0 [.row 30]) 30 = some 0)) x)) (rn_pool (tgt := (tgtL 0 [.row 30])) (show (r9.2.map (poolO .live 1 eI)) = (r9.2.map (poolO .live 1 eI)) from rfl) (fun x => (nr_rn eI_nr) x))) : (Ob.mk 3 (r9.1.map (eOTRat 0 1)) .live :: (r9.2.map (poolO .live 1 eI))) = List.map (rnO (tgtL 0 [.row 30])) (Ob.mk 3 (r9.1.map (eOTRat 30 1)) .live :: (r9.2.map (poolO .live 1 eI)))) (.c ((live_cons rfl (live_pool (show (r9.2.map (poolO .live 1 eI)) = (r9.2.map (poolO .live 1 eI)) from rfl))) : LiveR (Ob.mk 3 (r9.1.map (eOTRat 30 1)) .live :: (r9.2.map (poolO .live 1 eI)))) (.c ((rn_cons (rn_es (tgt := (backL [.row 30])) (f' := (eOTRat 30 1)) (show (r29.2.1.map (eOTRat 0 1)) = (r29.2.1.map (eOTRat 0 1)) from rfl) (fun x => (eOTRat_rn (rfl : (backL [.row 30]) 0 = some 30)) x)) (rn_pool (tgt := (backL [.row 30])) (show (r29.2.2.map (poolO .live 1 eI)) = (r29.2.2.map (poolO .live 1 eI)) from rfl) (fun x => (nr_rn eI_nr) x))) : (Ob.mk 3 (r29.2.1.map (eOTRat 30 1)) .live :: (r29.2.2.map (poolO .live 1 eI))) = List.map (rnO (backL [.row 30])) (Ob.mk 3 (r29.2.1.map (eOTRat 0 1)) .live :: (r29.2.2.map (poolO .live 1 eI)))) (.c ((live_cons rfl (live_pool (show (r29.2.2.map (poolO .live 1 eI)) = (r29.2.2.map (poolO .live 1 eI)) from rfl))) : LiveR (Ob.mk 3 (r29.2.1.map (eOTRat 0 1)) .live :: (r29.2.2.map (poolO .live 1 eI)))) (.c (laws_markRatS_o_ok r27.1 r9.1 r9.2 r29 h30) .nil))))))))))))))))));
    .ite (fun h31 =>
    .ret (runF_con0 hmix (tape := t15 ++ ([.reg [nt, nt, nt, nf, nf, nf, nf, (.br true, true), nt, nf, nf, nf, nt], .br true, .reg [nt]] : List TE)) (rr := ii) (by kernel_rfl) (o16.app (.c h31 (.c h31 (.c h31 (.c h31 (.c h31 (.c (rfl : true = true) (.c (rfl : true = true) (.c (rfl : true = true) (.c (rfl : true = true) .nil))))))))))))
    (fun h31 =>
    .bnd fun r32 h33 =>
    .grd fun h34 =>
    .bnd fun r35 h36 =>
    (let t17 : List TE := t15 ++ ([.reg [nt, nt, nt, nt, nt, (.call { ac := [.c1 (.c0 (.sl (a16.map eI))), ii], rds := [34], r := .b r17, sc := true }, true), nt, (.br false, true), nt, nt, nt, nt, (.br false, true)], .br false, .reg [nt], .reg [nt, nt, (.call { mv := [.row 34], rc := [.pure], ac := [ii, ii], r := .n .i64 r32.1, T1 := [[Ob.mk 1 (r32.2.map eI) .live]], rr := ii, rrc := [.pure], rds := [34], sc := false }, true), nt], .reg [nt], .reg [nt, nt, (.call { ac := [.c1 (.c0 (.sl (((r32.2.drop 0).take a16.length).map eI))), ii], rds := [34], r := .n .i64 r35, sc := true }, true), nt], .reg [nt, nt]] : List TE);
    have o18 := o16.app (.c h31 (.c h31 (.c h31 (.c (snap_full (show (a16.map eI) = (a16.map eI) from rfl) (show a16.length = a16.length from rfl)) (.c (fit_full (show (a16.map eI) = (a16.map eI) from rfl) (show a16.length = a16.length from rfl)) (.c (pure_map eI_pure a16) (.c (laws_eqIntS_ok a16 r12.1 r17 h18) (.c (Sc.b _ : Sc (.b r17)) (.c h31 (.c h31 (.c (not_t h19) (.c (not_t h19) (.c (not_t h19) (.c (not_t h19) (.c (not_t h20) (.c (pure_live eI_pure a16 : PureLive [Ob.mk 1 (a16.map eI) .live]) (.c (pure_live eI_pure r32.2 : PureLive [Ob.mk 1 (r32.2.map eI) .live]) (.c (laws_markIntS_o'_ok 1 a16 r32 h33) (.c (snap_prf (show (r32.2.map eI) = (r32.2.map eI) from rfl) 0 a16.length) (.c (fit_prf (show (r32.2.map eI) = (r32.2.map eI) from rfl) h34) (.c (pure_map eI_pure ((r32.2.drop 0).take a16.length)) (.c (laws_heldIntS_ok ((r32.2.drop 0).take a16.length) 1 r35 h36) (.c (Sc.n _ _ : Sc (.n .i64 r35)) .nil)))))))))))))))))))))));
    .ite (fun h37 =>
    .ret (runF_con0 hmix (tape := t17 ++ ([.br true, .reg [nt]] : List TE)) (rr := ii) (by kernel_rfl) (o18.app (.c h37 .nil))))
    (fun h37 =>
    (let t19 : List TE := t17 ++ ([.br false, .reg [nt, nt, nt]] : List TE);
    .ite (fun h38 =>
    .ret (runF_con0 hmix (tape := t19 ++ ([.br true, .reg [nt]] : List TE)) (rr := ii) (by kernel_rfl) (o18.app (.c h37 (.c h38 .nil)))))
    (fun h38 =>
    .ret (runF_con0 hmix (tape := t19 ++ ([.br false, .reg [nt, (.call { mv := [], rc := [], ac := [ii], r := .agg [.osl 0 0 0 r7.1.length, .osl 0 1 0 r7.2.length], T1 := [[Ob.mk 4 (r7.1.map eTJoint) .live, Ob.mk 3 (r7.2.map eTMember) .live]], rr := .c1 (.agg [.id, .id]), rrc := [.rn [Ob.mk 4 (r7.1.map eTJoint) .live, Ob.mk 3 (r7.2.map eTMember) .live]], rds := [], sc := true }, true), nt, (.call { mv := [], rc := [], ac := [ii], r := .osl 0 0 0 r9.1.length, T1 := [(Ob.mk 3 (r9.1.map (eOTRat 0 1)) .live :: (r9.2.map (poolO .live 1 eI)))], rr := ii, rrc := [.rn (Ob.mk 3 (r9.1.map (eOTRat 99 1)) .live :: (r9.2.map (poolO .live 1 eI)))], rds := [], sc := true }, true), (.call { mv := [], rc := [], ac := [.c1 (.agg [.sl (r7.1.map eTJoint), .sl (r7.2.map eTMember)]), .c1 (.c0 (.view 99 (Ob.mk 3 (r9.1.map (eOTRat 99 1)) .live) ((r9.1.map (vwOTRat r9.2)).map eTRat)))], r := .tup [.osl 0 0 0 a16.length, .b true], T1 := [[Ob.mk 1 (a16.map eI) .live]], rr := .comp [.c0 .id, .c0 .id], rrc := [.pure], rds := [97, 99], sc := true }, true), nt, nt, nt, nt, nt], .reg [nt, nt, (.call { ac := [.c1 (.c0 (.sl (a16.map eI))), ii], rds := [100], r := .b r17, sc := true }, true), nt, nt, nt, nt, nt, (.br false, true)], .br false, .reg [nt], .reg [nt, nt, (.call { ac := [.c1 (.c0 (.sl (((r32.2.drop 0).take a16.length).map eI))), ii], rds := [34], r := .n .i64 r35, sc := true }, true), nt], .reg [nt, nt], .br false, .reg [nt, nt, nt], .br false, .reg [nt]] : List TE)) (rr := ii) (by kernel_rfl) (o18.app (.c h37 (.c h38 (.c ((rn_cons (rn_es (tgt := (backL [.row 97])) (f' := eTJoint) (show (r7.1.map eTJoint) = (r7.1.map eTJoint) from rfl) (fun x => (nr_rn eTJoint_nr) x)) (rn_cons (rn_es (tgt := (backL [.row 97])) (f' := eTMember) (show (r7.2.map eTMember) = (r7.2.map eTMember) from rfl) (fun x => (nr_rn eTMember_nr) x)) rn_nil)) : [Ob.mk 4 (r7.1.map eTJoint) .live, Ob.mk 3 (r7.2.map eTMember) .live] = List.map (rnO (backL [.row 97])) [Ob.mk 4 (r7.1.map eTJoint) .live, Ob.mk 3 (r7.2.map eTMember) .live]) (.c ((live_cons rfl (live_cons rfl live_nil)) : LiveR [Ob.mk 4 (r7.1.map eTJoint) .live, Ob.mk 3 (r7.2.map eTMember) .live]) (.c (laws_toStructure_o_ok v_aS r7 h8) (.c (Sc.agg (sc_cons (Sc.osl _ _ _ _ : Sc (.osl 0 0 0 r7.1.length)) (sc_cons (Sc.osl _ _ _ _ : Sc (.osl 0 1 0 r7.2.length)) sc_nil)) : Sc (.agg [.osl 0 0 0 r7.1.length, .osl 0 1 0 r7.2.length])) (.c ((scT_cons (scR_cons (scO_es eTJoint_sc) (scR_cons (scO_es eTMember_sc) scR_nil)) scT_nil) : ScT [[Ob.mk 4 (r7.1.map eTJoint) .live, Ob.mk 3 (r7.2.map eTMember) .live]]) (.c ((rn_cons (rn_es (tgt := (backL [.row 99])) (f' := (eOTRat 99 1)) (show (r9.1.map (eOTRat 0 1)) = (r9.1.map (eOTRat 0 1)) from rfl) (fun x => (eOTRat_rn (rfl : (backL [.row 99]) 0 = some 99)) x)) (rn_pool (tgt := (backL [.row 99])) (show (r9.2.map (poolO .live 1 eI)) = (r9.2.map (poolO .live 1 eI)) from rfl) (fun x => (nr_rn eI_nr) x))) : (Ob.mk 3 (r9.1.map (eOTRat 99 1)) .live :: (r9.2.map (poolO .live 1 eI))) = List.map (rnO (backL [.row 99])) (Ob.mk 3 (r9.1.map (eOTRat 0 1)) .live :: (r9.2.map (poolO .live 1 eI)))) (.c ((live_cons rfl (live_pool (show (r9.2.map (poolO .live 1 eI)) = (r9.2.map (poolO .live 1 eI)) from rfl))) : LiveR (Ob.mk 3 (r9.1.map (eOTRat 0 1)) .live :: (r9.2.map (poolO .live 1 eI)))) (.c (laws_toRatS_o_ok v_aQ r9 h10) (.c (Sc.osl _ _ _ _ : Sc (.osl 0 0 0 r9.1.length)) (.c ((scT_cons (scR_cons (scO_es (eOTRat_sc _ _)) (scR_pool eI_sc)) scT_nil) : ScT [(Ob.mk 3 (r9.1.map (eOTRat 0 1)) .live :: (r9.2.map (poolO .live 1 eI)))]) (.c (snap_full (show (r7.1.map eTJoint) = (r7.1.map eTJoint) from rfl) (show r7.1.length = r7.1.length from rfl)) (.c (fit_full (show (r7.1.map eTJoint) = (r7.1.map eTJoint) from rfl) (show r7.1.length = r7.1.length from rfl)) (.c (pure_map eTJoint_pure r7.1) (.c (snap_full (show (r7.2.map eTMember) = (r7.2.map eTMember) from rfl) (show r7.2.length = r7.2.length from rfl)) (.c (fit_full (show (r7.2.map eTMember) = (r7.2.map eTMember) from rfl) (show r7.2.length = r7.2.length from rfl)) (.c (pure_map eTMember_pure r7.2) (.c (rfl : obIn (some (Ob.mk 3 (r9.1.map (eOTRat 99 1)) .live :: (r9.2.map (poolO .live 1 eI)))) 0 = some (Ob.mk 3 (r9.1.map (eOTRat 99 1)) .live)) (.c (rfl : _ = true) (.c (fit_full (show (r9.1.map (eOTRat 99 1)) = (r9.1.map (eOTRat 99 1)) from rfl) (show r9.1.length = r9.1.length from rfl)) (.c (pure_map eTRat_pure (r9.1.map (vwOTRat r9.2))) (.c (dv_map (rp := 99) (prow := [Ob.mk 3 (r9.1.map (eOTRat 99 1)) .live] ++ (r9.2.map (poolO .live 1 eI))) (al := isAny) (sz := 3) (g := eTRat) (show (r9.1.map (eOTRat 99 1)) = (r9.1.map (eOTRat 99 1)) from rfl) (fun _ => rfl) (fun x hx => (dvOTRat (rp := 99) (c := 1) (al := isAny) (heads := [Ob.mk 3 (r9.1.map (eOTRat 99 1)) .live]) (show (r9.2.map (poolO .live 1 eI)) = (r9.2.map (poolO .live 1 eI)) from rfl) rfl kl rfl (all_in h11 x hx))) (show r9.1.length = r9.1.length from rfl)) (.c (pure_live eI_pure a16 : PureLive [Ob.mk 1 (a16.map eI) .live]) (.c (impl_NeedsOf_o_ok (⟨r7.1, r7.2⟩ : TStructure) (r9.1.map (vwOTRat r9.2)) (.inl a16) h15) (.c (sc_tup (sc_cons (Sc.osl _ _ _ _ : Sc (.osl 0 0 0 a16.length)) (sc_cons (Sc.b _ : Sc (.b true)) sc_nil)) : Sc (.tup [.osl 0 0 0 a16.length, .b true])) (.c ((scT_cons (scR_cons (scO_es eI_sc) scR_nil) scT_nil) : ScT [[Ob.mk 1 (a16.map eI) .live]]) (.c (snap_full (show (a16.map eI) = (a16.map eI) from rfl) (show a16.length = a16.length from rfl)) (.c (fit_full (show (a16.map eI) = (a16.map eI) from rfl) (show a16.length = a16.length from rfl)) (.c (pure_map eI_pure a16) (.c (laws_eqIntS_ok a16 r12.1 r17 h18) (.c (Sc.b _ : Sc (.b r17)) (.c (not_t h19) (.c (not_t h19) (.c (not_t h19) (.c (not_t h19) (.c (not_t h20) (.c (snap_prf (show (r32.2.map eI) = (r32.2.map eI) from rfl) 0 a16.length) (.c (fit_prf (show (r32.2.map eI) = (r32.2.map eI) from rfl) h34) (.c (pure_map eI_pure ((r32.2.drop 0).take a16.length)) (.c (laws_heldIntS_ok ((r32.2.drop 0).take a16.length) 1 r35 h36) (.c (Sc.n _ _ : Sc (.n .i64 r35)) (.c h37 (.c h38 .nil)))))))))))))))))))))))))))))))))))))))))))))))))))))
    (fun h26 =>
    .ret (runF_con0 hmix (tape := t13 ++ ([.br true, .reg [nt]] : List TE)) (rr := ii) (by kernel_rfl) (o14.app (.c (not_f h26) .nil))))))
    (fun h23 =>
    .ret (runF_con0 hmix (tape := t11 ++ ([.br true, .reg [nt]] : List TE)) (rr := ii) (by kernel_rfl) (o12.app (.c (not_f h23) .nil))))))
    (fun h20 =>
    .ret (runF_con0 hmix (tape := t9 ++ ([.br true, .reg [nt]] : List TE)) (rr := ii) (by kernel_rfl) (o10.app (.c (not_f h20) .nil))))))
    (fun h19 =>
    .ret (runF_con0 hmix (tape := t7 ++ ([.reg [nt, nt, (.call { ac := [.c1 (.c0 (.sl (a16.map eI))), ii], rds := [34], r := .b r17, sc := true }, true), nt, nt, nf, nf, nf, (.br true, true)], .br true, .reg [nt]] : List TE)) (rr := ii) (by kernel_rfl) (o8.app (.c (not_f h19) (.c (not_f h19) (.c (not_f h19) (.c (not_f h19) (.c (rfl : true = true) .nil))))))))))
    · exact (.bnd fun r17 h18 =>
    (let t7 : List TE := t5 ++ ([.reg [nt, nt, (.call { mv := [], rc := [], ac := [.c1 (.agg [.sl (r7.1.map eTJoint), .sl (r7.2.map eTMember)]), .c1 (.c0 (.view 30 (Ob.mk 3 (r9.1.map (eOTRat 30 1)) .live) ((r9.1.map (vwOTRat r9.2)).map eTRat)))], r := .tup [.nils, .b false], T1 := [], rr := ii, rrc := [], rds := [26, 30], sc := true }, true), nt, nt, nt, nt, nt]] : List TE);
    have o8 := o6.app (.c (snap_full (show (r7.1.map eTJoint) = (r7.1.map eTJoint) from rfl) (show r7.1.length = r7.1.length from rfl)) (.c (fit_full (show (r7.1.map eTJoint) = (r7.1.map eTJoint) from rfl) (show r7.1.length = r7.1.length from rfl)) (.c (pure_map eTJoint_pure r7.1) (.c (snap_full (show (r7.2.map eTMember) = (r7.2.map eTMember) from rfl) (show r7.2.length = r7.2.length from rfl)) (.c (fit_full (show (r7.2.map eTMember) = (r7.2.map eTMember) from rfl) (show r7.2.length = r7.2.length from rfl)) (.c (pure_map eTMember_pure r7.2) (.c (rfl : obIn (some (Ob.mk 3 (r9.1.map (eOTRat 30 1)) .live :: (r9.2.map (poolO .live 1 eI)))) 0 = some (Ob.mk 3 (r9.1.map (eOTRat 30 1)) .live)) (.c (rfl : _ = true) (.c (fit_full (show (r9.1.map (eOTRat 30 1)) = (r9.1.map (eOTRat 30 1)) from rfl) (show r9.1.length = r9.1.length from rfl)) (.c (pure_map eTRat_pure (r9.1.map (vwOTRat r9.2))) (.c (dv_map (rp := 30) (prow := [Ob.mk 3 (r9.1.map (eOTRat 30 1)) .live] ++ (r9.2.map (poolO .live 1 eI))) (al := isAny) (sz := 3) (g := eTRat) (show (r9.1.map (eOTRat 30 1)) = (r9.1.map (eOTRat 30 1)) from rfl) (fun _ => rfl) (fun x hx => (dvOTRat (rp := 30) (c := 1) (al := isAny) (heads := [Ob.mk 3 (r9.1.map (eOTRat 30 1)) .live]) (show (r9.2.map (poolO .live 1 eI)) = (r9.2.map (poolO .live 1 eI)) from rfl) rfl kl rfl (all_in h11 x hx))) (show r9.1.length = r9.1.length from rfl)) (.c (impl_NeedsOf_o_ok (⟨r7.1, r7.2⟩ : TStructure) (r9.1.map (vwOTRat r9.2)) (.inr a16) h15) (.c (sc_tup (sc_cons (Sc.nils : Sc .nils) (sc_cons (Sc.b _ : Sc (.b false)) sc_nil)) : Sc (.tup [.nils, .b false])) (.c (laws_eqIntS_ok ([] : List Int) r12.1 r17 h18) (.c (Sc.b _ : Sc (.b r17)) .nil)))))))))))))));
    .ite (fun h19 =>
    (let t9 : List TE := t7 ++ ([.reg [nt, nt, (.call { ac := [.c1 (.c0 (.nl 1)), ii], r := .b r17, sc := true }, true), nt, nt, nt, nt, nt, (.br false, true)]] : List TE);
    have o10 := o8.app (.c (not_t h19) (.c (not_t h19) (.c (not_t h19) (.c (not_t h19) .nil))));
    .ite (fun h20 =>
    .bnd fun r21 h22 =>
    (let t11 : List TE := t9 ++ ([.br false, .reg [nt, nt, (.call { mv := [], rc := [], ac := [ii], r := .agg [.osl 0 0 0 r7.1.length, .osl 0 1 0 r7.2.length], T1 := [[Ob.mk 4 (r7.1.map eTJoint) .live, Ob.mk 3 (r7.2.map eTMember) .live]], rr := .c1 (.agg [.id, .id]), rrc := [.rn [Ob.mk 4 (r7.1.map eTJoint) .live, Ob.mk 3 (r7.2.map eTMember) .live]], rds := [], sc := true }, true), (.call { ac := [.c1 (.agg [.sl (r7.1.map eTJoint), .sl (r7.2.map eTMember)]), .c1 (.agg [.sl (r7.1.map eTJoint), .sl (r7.2.map eTMember)])], rds := [26, 51], r := .b r21, sc := true }, true), nt]] : List TE);
    have o12 := o10.app (.c (not_t h20) (.c ((rn_cons (rn_es (tgt := (backL [.row 51])) (f' := eTJoint) (show (r7.1.map eTJoint) = (r7.1.map eTJoint) from rfl) (fun x => (nr_rn eTJoint_nr) x)) (rn_cons (rn_es (tgt := (backL [.row 51])) (f' := eTMember) (show (r7.2.map eTMember) = (r7.2.map eTMember) from rfl) (fun x => (nr_rn eTMember_nr) x)) rn_nil)) : [Ob.mk 4 (r7.1.map eTJoint) .live, Ob.mk 3 (r7.2.map eTMember) .live] = List.map (rnO (backL [.row 51])) [Ob.mk 4 (r7.1.map eTJoint) .live, Ob.mk 3 (r7.2.map eTMember) .live]) (.c ((live_cons rfl (live_cons rfl live_nil)) : LiveR [Ob.mk 4 (r7.1.map eTJoint) .live, Ob.mk 3 (r7.2.map eTMember) .live]) (.c (laws_toStructure_o_ok v_aS r7 h8) (.c (Sc.agg (sc_cons (Sc.osl _ _ _ _ : Sc (.osl 0 0 0 r7.1.length)) (sc_cons (Sc.osl _ _ _ _ : Sc (.osl 0 1 0 r7.2.length)) sc_nil)) : Sc (.agg [.osl 0 0 0 r7.1.length, .osl 0 1 0 r7.2.length])) (.c ((scT_cons (scR_cons (scO_es eTJoint_sc) (scR_cons (scO_es eTMember_sc) scR_nil)) scT_nil) : ScT [[Ob.mk 4 (r7.1.map eTJoint) .live, Ob.mk 3 (r7.2.map eTMember) .live]]) (.c (snap_full (show (r7.1.map eTJoint) = (r7.1.map eTJoint) from rfl) (show r7.1.length = r7.1.length from rfl)) (.c (fit_full (show (r7.1.map eTJoint) = (r7.1.map eTJoint) from rfl) (show r7.1.length = r7.1.length from rfl)) (.c (pure_map eTJoint_pure r7.1) (.c (snap_full (show (r7.2.map eTMember) = (r7.2.map eTMember) from rfl) (show r7.2.length = r7.2.length from rfl)) (.c (fit_full (show (r7.2.map eTMember) = (r7.2.map eTMember) from rfl) (show r7.2.length = r7.2.length from rfl)) (.c (pure_map eTMember_pure r7.2) (.c (snap_full (show (r7.1.map eTJoint) = (r7.1.map eTJoint) from rfl) (show r7.1.length = r7.1.length from rfl)) (.c (fit_full (show (r7.1.map eTJoint) = (r7.1.map eTJoint) from rfl) (show r7.1.length = r7.1.length from rfl)) (.c (pure_map eTJoint_pure r7.1) (.c (snap_full (show (r7.2.map eTMember) = (r7.2.map eTMember) from rfl) (show r7.2.length = r7.2.length from rfl)) (.c (fit_full (show (r7.2.map eTMember) = (r7.2.map eTMember) from rfl) (show r7.2.length = r7.2.length from rfl)) (.c (pure_map eTMember_pure r7.2) (.c (laws_eqStructure_ok (⟨r7.1, r7.2⟩ : TStructure) (⟨r7.1, r7.2⟩ : TStructure) r21 h22) (.c (Sc.b _ : Sc (.b r21)) .nil))))))))))))))))))));
    .ite (fun h23 =>
    .bnd fun r24 h25 =>
    (let t13 : List TE := t11 ++ ([.br false, .reg [nt, nt, (.call { mv := [], rc := [], ac := [ii], r := .osl 0 0 0 r9.1.length, T1 := [(Ob.mk 3 (r9.1.map (eOTRat 0 1)) .live :: (r9.2.map (poolO .live 1 eI)))], rr := ii, rrc := [.rn (Ob.mk 3 (r9.1.map (eOTRat 56 1)) .live :: (r9.2.map (poolO .live 1 eI)))], rds := [], sc := true }, true), (.call { ac := [.c1 (.c0 (.view 30 (Ob.mk 3 (r9.1.map (eOTRat 30 1)) .live) ((r9.1.map (vwOTRat r9.2)).map eTRat))), .c1 (.c0 (.view 56 (Ob.mk 3 (r9.1.map (eOTRat 56 1)) .live) ((r9.1.map (vwOTRat r9.2)).map eTRat)))], rds := [30, 56], r := .b r24, sc := true }, true), nt]] : List TE);
    have o14 := o12.app (.c (not_t h23) (.c ((rn_cons (rn_es (tgt := (backL [.row 56])) (f' := (eOTRat 56 1)) (show (r9.1.map (eOTRat 0 1)) = (r9.1.map (eOTRat 0 1)) from rfl) (fun x => (eOTRat_rn (rfl : (backL [.row 56]) 0 = some 56)) x)) (rn_pool (tgt := (backL [.row 56])) (show (r9.2.map (poolO .live 1 eI)) = (r9.2.map (poolO .live 1 eI)) from rfl) (fun x => (nr_rn eI_nr) x))) : (Ob.mk 3 (r9.1.map (eOTRat 56 1)) .live :: (r9.2.map (poolO .live 1 eI))) = List.map (rnO (backL [.row 56])) (Ob.mk 3 (r9.1.map (eOTRat 0 1)) .live :: (r9.2.map (poolO .live 1 eI)))) (.c ((live_cons rfl (live_pool (show (r9.2.map (poolO .live 1 eI)) = (r9.2.map (poolO .live 1 eI)) from rfl))) : LiveR (Ob.mk 3 (r9.1.map (eOTRat 0 1)) .live :: (r9.2.map (poolO .live 1 eI)))) (.c (laws_toRatS_o_ok v_aQ r9 h10) (.c (Sc.osl _ _ _ _ : Sc (.osl 0 0 0 r9.1.length)) (.c ((scT_cons (scR_cons (scO_es (eOTRat_sc _ _)) (scR_pool eI_sc)) scT_nil) : ScT [(Ob.mk 3 (r9.1.map (eOTRat 0 1)) .live :: (r9.2.map (poolO .live 1 eI)))]) (.c (rfl : obIn (some (Ob.mk 3 (r9.1.map (eOTRat 30 1)) .live :: (r9.2.map (poolO .live 1 eI)))) 0 = some (Ob.mk 3 (r9.1.map (eOTRat 30 1)) .live)) (.c (rfl : _ = true) (.c (fit_full (show (r9.1.map (eOTRat 30 1)) = (r9.1.map (eOTRat 30 1)) from rfl) (show r9.1.length = r9.1.length from rfl)) (.c (pure_map eTRat_pure (r9.1.map (vwOTRat r9.2))) (.c (dv_map (rp := 30) (prow := [Ob.mk 3 (r9.1.map (eOTRat 30 1)) .live] ++ (r9.2.map (poolO .live 1 eI))) (al := isAny) (sz := 3) (g := eTRat) (show (r9.1.map (eOTRat 30 1)) = (r9.1.map (eOTRat 30 1)) from rfl) (fun _ => rfl) (fun x hx => (dvOTRat (rp := 30) (c := 1) (al := isAny) (heads := [Ob.mk 3 (r9.1.map (eOTRat 30 1)) .live]) (show (r9.2.map (poolO .live 1 eI)) = (r9.2.map (poolO .live 1 eI)) from rfl) rfl kl rfl (all_in h11 x hx))) (show r9.1.length = r9.1.length from rfl)) (.c (rfl : obIn (some (Ob.mk 3 (r9.1.map (eOTRat 56 1)) .live :: (r9.2.map (poolO .live 1 eI)))) 0 = some (Ob.mk 3 (r9.1.map (eOTRat 56 1)) .live)) (.c (rfl : _ = true) (.c (fit_full (show (r9.1.map (eOTRat 56 1)) = (r9.1.map (eOTRat 56 1)) from rfl) (show r9.1.length = r9.1.length from rfl)) (.c (pure_map eTRat_pure (r9.1.map (vwOTRat r9.2))) (.c (dv_map (rp := 56) (prow := [Ob.mk 3 (r9.1.map (eOTRat 56 1)) .live] ++ (r9.2.map (poolO .live 1 eI))) (al := isAny) (sz := 3) (g := eTRat) (show (r9.1.map (eOTRat 56 1)) = (r9.1.map (eOTRat 56 1)) from rfl) (fun _ => rfl) (fun x hx => (dvOTRat (rp := 56) (c := 1) (al := isAny) (heads := [Ob.mk 3 (r9.1.map (eOTRat 56 1)) .live]) (show (r9.2.map (poolO .live 1 eI)) = (r9.2.map (poolO .live 1 eI)) from rfl) rfl kl rfl (all_in h11 x hx))) (show r9.1.length = r9.1.length from rfl)) (.c (laws_eqRatS_ok (r9.1.map (vwOTRat r9.2)) (r9.1.map (vwOTRat r9.2)) r24 h25) (.c (Sc.b _ : Sc (.b r24)) .nil))))))))))))))))));
    .ite (fun h26 =>
    .bnd fun r27 h28 =>
    .bnd fun r29 h30 =>
    (let t15 : List TE := t13 ++ ([.br false, .reg [nt], .reg [nt, nt, (.call { mv := [.ob 26 0 (Ob.mk 4 (r7.1.map eTJoint) .live), .ob 26 1 (Ob.mk 3 (r7.2.map eTMember) .live)], rc := [.pure, .pure], ac := [.c1 (.agg [.at_ 0 0 r7.1.length, .at_ 1 0 r7.2.length]), ii], r := .n .i64 r27.1, T1 := [[Ob.mk 4 (r27.2.1.map eTJoint) .live], [Ob.mk 3 (r27.2.2.map eTMember) .live]], rr := ii, rrc := [.pure, .pure], rds := [26], sc := false }, true), nt], .reg [nt, nt, (.call { mv := [.row 30], rc := [.rn (Ob.mk 3 (r9.1.map (eOTRat 0 1)) .live :: (r9.2.map (poolO .live 1 eI)))], ac := [ii, ii], r := .n .i64 r29.1, T1 := [(Ob.mk 3 (r29.2.1.map (eOTRat 0 1)) .live :: (r29.2.2.map (poolO .live 1 eI)))], rr := ii, rrc := [.rn (Ob.mk 3 (r29.2.1.map (eOTRat 30 1)) .live :: (r29.2.2.map (poolO .live 1 eI)))], rds := [30], sc := false }, true), nt]] : List TE);
    have o16 := o14.app (.c (not_t h26) (.c (by decide : 0 ≠ 1) (.c (rfl : mvL [.ob 26 0 (Ob.mk 4 (r7.1.map eTJoint) .live), .ob 26 1 (Ob.mk 3 (r7.2.map eTMember) .live)] 0 0 = some (26, 0)) (.c (rfl : r7.1.length = r7.1.length) (.c (rfl : mvL [.ob 26 0 (Ob.mk 4 (r7.1.map eTJoint) .live), .ob 26 1 (Ob.mk 3 (r7.2.map eTMember) .live)] 1 0 = some (26, 1)) (.c (rfl : r7.2.length = r7.2.length) (.c (rfl : obIn (some [Ob.mk 4 (r7.1.map eTJoint) .live, Ob.mk 3 (r7.2.map eTMember) .live]) 0 = some (Ob.mk 4 (r7.1.map eTJoint) .live)) (.c (pure_live eTJoint_pure r7.1 : PureLive [Ob.mk 4 (r7.1.map eTJoint) .live]) (.c (rfl : obIn (some [Ob.mk 4 (r7.1.map eTJoint) .live, Ob.mk 3 (r7.2.map eTMember) .live]) 1 = some (Ob.mk 3 (r7.2.map eTMember) .live)) (.c (pure_live eTMember_pure r7.2 : PureLive [Ob.mk 3 (r7.2.map eTMember) .live]) (.c (pure_live eTJoint_pure r27.2.1 : PureLive [Ob.mk 4 (r27.2.1.map eTJoint) .live]) (.c (pure_live eTMember_pure r27.2.2 : PureLive [Ob.mk 3 (r27.2.2.map eTMember) .live]) (.c (laws_markStructure_o_ok 1 r7.1 r7.2 r27 h28) (.c ((rn_cons (rn_es (tgt := (tgtL 0 [.row 30])) (f' := (eOTRat 0 1)) (show (r9.1.map (eOTRat 30 1)) = (r9.1.map (eOTRat 30 1)) from rfl) (fun x => (eOTRat_rn (rfl : (tgtL 0 [.row 30]) 30 = some 0)) x)) (rn_pool (tgt := (tgtL 0 [.row 30])) (show (r9.2.map (poolO .live 1 eI)) = (r9.2.map (poolO .live 1 eI)) from rfl) (fun x => (nr_rn eI_nr) x))) : (Ob.mk 3 (r9.1.map (eOTRat 0 1)) .live :: (r9.2.map (poolO .live 1 eI))) = List.map (rnO (tgtL 0 [.row 30])) (Ob.mk 3 (r9.1.map (eOTRat 30 1)) .live :: (r9.2.map (poolO .live 1 eI)))) (.c ((live_cons rfl (live_pool (show (r9.2.map (poolO .live 1 eI)) = (r9.2.map (poolO .live 1 eI)) from rfl))) : LiveR (Ob.mk 3 (r9.1.map (eOTRat 30 1)) .live :: (r9.2.map (poolO .live 1 eI)))) (.c ((rn_cons (rn_es (tgt := (backL [.row 30])) (f' := (eOTRat 30 1)) (show (r29.2.1.map (eOTRat 0 1)) = (r29.2.1.map (eOTRat 0 1)) from rfl) (fun x => (eOTRat_rn (rfl : (backL [.row 30]) 0 = some 30)) x)) (rn_pool (tgt := (backL [.row 30])) (show (r29.2.2.map (poolO .live 1 eI)) = (r29.2.2.map (poolO .live 1 eI)) from rfl) (fun x => (nr_rn eI_nr) x))) : (Ob.mk 3 (r29.2.1.map (eOTRat 30 1)) .live :: (r29.2.2.map (poolO .live 1 eI))) = List.map (rnO (backL [.row 30])) (Ob.mk 3 (r29.2.1.map (eOTRat 0 1)) .live :: (r29.2.2.map (poolO .live 1 eI)))) (.c ((live_cons rfl (live_pool (show (r29.2.2.map (poolO .live 1 eI)) = (r29.2.2.map (poolO .live 1 eI)) from rfl))) : LiveR (Ob.mk 3 (r29.2.1.map (eOTRat 0 1)) .live :: (r29.2.2.map (poolO .live 1 eI)))) (.c (laws_markRatS_o_ok r27.1 r9.1 r9.2 r29 h30) .nil))))))))))))))))));
    .ite (fun h31 =>
    .ret (runF_con0 hmix (tape := t15 ++ ([.reg [nt, nt, nt, nf, nf, nf, nf, (.br true, true), nt, nf, nf, nf, nt], .br true, .reg [nt]] : List TE)) (rr := ii) (by kernel_rfl) (o16.app (.c h31 (.c h31 (.c h31 (.c h31 (.c h31 (.c (rfl : true = true) (.c (rfl : true = true) (.c (rfl : true = true) (.c (rfl : true = true) .nil))))))))))))
    (fun h31 =>
    .bnd fun r32 h33 =>
    .bnd fun r34 h35 =>
    (let t17 : List TE := t15 ++ ([.reg [nt, nt, nt, nt, nt, (.call { ac := [.c1 (.c0 (.nl 1)), ii], r := .b r17, sc := true }, true), nt, (.br false, true), nt, nt, nt, nt, (.br false, true)], .br false, .reg [nt], .reg [nt, nt, (.call { ac := [.c1 (.c0 (.nl 1)), ii], r := .n .i64 r32, sc := true }, true), nt], .reg [nt], .reg [nt, nt, (.call { ac := [.c1 (.c0 (.nl 1)), ii], r := .n .i64 r34, sc := true }, true), nt], .reg [nt, nt]] : List TE);
    have o18 := o16.app (.c h31 (.c h31 (.c h31 (.c (laws_eqIntS_ok ([] : List Int) r12.1 r17 h18) (.c (Sc.b _ : Sc (.b r17)) (.c h31 (.c h31 (.c (not_t h19) (.c (not_t h19) (.c (not_t h19) (.c (not_t h19) (.c (not_t h20) (.c (laws_markIntS_ok ([] : List Int) 1 r32 h33) (.c (Sc.n _ _ : Sc (.n .i64 r32)) (.c (laws_heldIntS_ok ([] : List Int) 1 r34 h35) (.c (Sc.n _ _ : Sc (.n .i64 r34)) .nil))))))))))))))));
    .ite (fun h36 =>
    .ret (runF_con0 hmix (tape := t17 ++ ([.br true, .reg [nt]] : List TE)) (rr := ii) (by kernel_rfl) (o18.app (.c h36 .nil))))
    (fun h36 =>
    (let t19 : List TE := t17 ++ ([.br false, .reg [nt, nt, nt]] : List TE);
    .ite (fun h37 =>
    .ret (runF_con0 hmix (tape := t19 ++ ([.br true, .reg [nt]] : List TE)) (rr := ii) (by kernel_rfl) (o18.app (.c h36 (.c h37 .nil)))))
    (fun h37 =>
    .ret (runF_con0 hmix (tape := t19 ++ ([.br false, .reg [nt, (.call { mv := [], rc := [], ac := [ii], r := .agg [.osl 0 0 0 r7.1.length, .osl 0 1 0 r7.2.length], T1 := [[Ob.mk 4 (r7.1.map eTJoint) .live, Ob.mk 3 (r7.2.map eTMember) .live]], rr := .c1 (.agg [.id, .id]), rrc := [.rn [Ob.mk 4 (r7.1.map eTJoint) .live, Ob.mk 3 (r7.2.map eTMember) .live]], rds := [], sc := true }, true), nt, (.call { mv := [], rc := [], ac := [ii], r := .osl 0 0 0 r9.1.length, T1 := [(Ob.mk 3 (r9.1.map (eOTRat 0 1)) .live :: (r9.2.map (poolO .live 1 eI)))], rr := ii, rrc := [.rn (Ob.mk 3 (r9.1.map (eOTRat 99 1)) .live :: (r9.2.map (poolO .live 1 eI)))], rds := [], sc := true }, true), (.call { mv := [], rc := [], ac := [.c1 (.agg [.sl (r7.1.map eTJoint), .sl (r7.2.map eTMember)]), .c1 (.c0 (.view 99 (Ob.mk 3 (r9.1.map (eOTRat 99 1)) .live) ((r9.1.map (vwOTRat r9.2)).map eTRat)))], r := .tup [.nils, .b false], T1 := [], rr := ii, rrc := [], rds := [97, 99], sc := true }, true), nt, nt, nt, nt, nt], .reg [nt, nt, (.call { ac := [.c1 (.c0 (.nl 1)), ii], r := .b r17, sc := true }, true), nt, nt, nt, nt, nt, (.br false, true)], .br false, .reg [nt], .reg [nt, nt, (.call { ac := [.c1 (.c0 (.nl 1)), ii], r := .n .i64 r34, sc := true }, true), nt], .reg [nt, nt], .br false, .reg [nt, nt, nt], .br false, .reg [nt]] : List TE)) (rr := ii) (by kernel_rfl) (o18.app (.c h36 (.c h37 (.c ((rn_cons (rn_es (tgt := (backL [.row 97])) (f' := eTJoint) (show (r7.1.map eTJoint) = (r7.1.map eTJoint) from rfl) (fun x => (nr_rn eTJoint_nr) x)) (rn_cons (rn_es (tgt := (backL [.row 97])) (f' := eTMember) (show (r7.2.map eTMember) = (r7.2.map eTMember) from rfl) (fun x => (nr_rn eTMember_nr) x)) rn_nil)) : [Ob.mk 4 (r7.1.map eTJoint) .live, Ob.mk 3 (r7.2.map eTMember) .live] = List.map (rnO (backL [.row 97])) [Ob.mk 4 (r7.1.map eTJoint) .live, Ob.mk 3 (r7.2.map eTMember) .live]) (.c ((live_cons rfl (live_cons rfl live_nil)) : LiveR [Ob.mk 4 (r7.1.map eTJoint) .live, Ob.mk 3 (r7.2.map eTMember) .live]) (.c (laws_toStructure_o_ok v_aS r7 h8) (.c (Sc.agg (sc_cons (Sc.osl _ _ _ _ : Sc (.osl 0 0 0 r7.1.length)) (sc_cons (Sc.osl _ _ _ _ : Sc (.osl 0 1 0 r7.2.length)) sc_nil)) : Sc (.agg [.osl 0 0 0 r7.1.length, .osl 0 1 0 r7.2.length])) (.c ((scT_cons (scR_cons (scO_es eTJoint_sc) (scR_cons (scO_es eTMember_sc) scR_nil)) scT_nil) : ScT [[Ob.mk 4 (r7.1.map eTJoint) .live, Ob.mk 3 (r7.2.map eTMember) .live]]) (.c ((rn_cons (rn_es (tgt := (backL [.row 99])) (f' := (eOTRat 99 1)) (show (r9.1.map (eOTRat 0 1)) = (r9.1.map (eOTRat 0 1)) from rfl) (fun x => (eOTRat_rn (rfl : (backL [.row 99]) 0 = some 99)) x)) (rn_pool (tgt := (backL [.row 99])) (show (r9.2.map (poolO .live 1 eI)) = (r9.2.map (poolO .live 1 eI)) from rfl) (fun x => (nr_rn eI_nr) x))) : (Ob.mk 3 (r9.1.map (eOTRat 99 1)) .live :: (r9.2.map (poolO .live 1 eI))) = List.map (rnO (backL [.row 99])) (Ob.mk 3 (r9.1.map (eOTRat 0 1)) .live :: (r9.2.map (poolO .live 1 eI)))) (.c ((live_cons rfl (live_pool (show (r9.2.map (poolO .live 1 eI)) = (r9.2.map (poolO .live 1 eI)) from rfl))) : LiveR (Ob.mk 3 (r9.1.map (eOTRat 0 1)) .live :: (r9.2.map (poolO .live 1 eI)))) (.c (laws_toRatS_o_ok v_aQ r9 h10) (.c (Sc.osl _ _ _ _ : Sc (.osl 0 0 0 r9.1.length)) (.c ((scT_cons (scR_cons (scO_es (eOTRat_sc _ _)) (scR_pool eI_sc)) scT_nil) : ScT [(Ob.mk 3 (r9.1.map (eOTRat 0 1)) .live :: (r9.2.map (poolO .live 1 eI)))]) (.c (snap_full (show (r7.1.map eTJoint) = (r7.1.map eTJoint) from rfl) (show r7.1.length = r7.1.length from rfl)) (.c (fit_full (show (r7.1.map eTJoint) = (r7.1.map eTJoint) from rfl) (show r7.1.length = r7.1.length from rfl)) (.c (pure_map eTJoint_pure r7.1) (.c (snap_full (show (r7.2.map eTMember) = (r7.2.map eTMember) from rfl) (show r7.2.length = r7.2.length from rfl)) (.c (fit_full (show (r7.2.map eTMember) = (r7.2.map eTMember) from rfl) (show r7.2.length = r7.2.length from rfl)) (.c (pure_map eTMember_pure r7.2) (.c (rfl : obIn (some (Ob.mk 3 (r9.1.map (eOTRat 99 1)) .live :: (r9.2.map (poolO .live 1 eI)))) 0 = some (Ob.mk 3 (r9.1.map (eOTRat 99 1)) .live)) (.c (rfl : _ = true) (.c (fit_full (show (r9.1.map (eOTRat 99 1)) = (r9.1.map (eOTRat 99 1)) from rfl) (show r9.1.length = r9.1.length from rfl)) (.c (pure_map eTRat_pure (r9.1.map (vwOTRat r9.2))) (.c (dv_map (rp := 99) (prow := [Ob.mk 3 (r9.1.map (eOTRat 99 1)) .live] ++ (r9.2.map (poolO .live 1 eI))) (al := isAny) (sz := 3) (g := eTRat) (show (r9.1.map (eOTRat 99 1)) = (r9.1.map (eOTRat 99 1)) from rfl) (fun _ => rfl) (fun x hx => (dvOTRat (rp := 99) (c := 1) (al := isAny) (heads := [Ob.mk 3 (r9.1.map (eOTRat 99 1)) .live]) (show (r9.2.map (poolO .live 1 eI)) = (r9.2.map (poolO .live 1 eI)) from rfl) rfl kl rfl (all_in h11 x hx))) (show r9.1.length = r9.1.length from rfl)) (.c (impl_NeedsOf_o_ok (⟨r7.1, r7.2⟩ : TStructure) (r9.1.map (vwOTRat r9.2)) (.inr a16) h15) (.c (sc_tup (sc_cons (Sc.nils : Sc .nils) (sc_cons (Sc.b _ : Sc (.b false)) sc_nil)) : Sc (.tup [.nils, .b false])) (.c (laws_eqIntS_ok ([] : List Int) r12.1 r17 h18) (.c (Sc.b _ : Sc (.b r17)) (.c (not_t h19) (.c (not_t h19) (.c (not_t h19) (.c (not_t h19) (.c (not_t h20) (.c (laws_heldIntS_ok ([] : List Int) 1 r34 h35) (.c (Sc.n _ _ : Sc (.n .i64 r34)) (.c h36 (.c h37 .nil)))))))))))))))))))))))))))))))))))))))))))))
    (fun h26 =>
    .ret (runF_con0 hmix (tape := t13 ++ ([.br true, .reg [nt]] : List TE)) (rr := ii) (by kernel_rfl) (o14.app (.c (not_f h26) .nil))))))
    (fun h23 =>
    .ret (runF_con0 hmix (tape := t11 ++ ([.br true, .reg [nt]] : List TE)) (rr := ii) (by kernel_rfl) (o12.app (.c (not_f h23) .nil))))))
    (fun h20 =>
    .ret (runF_con0 hmix (tape := t9 ++ ([.br true, .reg [nt]] : List TE)) (rr := ii) (by kernel_rfl) (o10.app (.c (not_f h20) .nil))))))
    (fun h19 =>
    .ret (runF_con0 hmix (tape := t7 ++ ([.reg [nt, nt, (.call { ac := [.c1 (.c0 (.nl 1)), ii], r := .b r17, sc := true }, true), nt, nt, nf, nf, nf, (.br true, true)], .br true, .reg [nt]] : List TE)) (rr := ii) (by kernel_rfl) (o8.app (.c (not_f h19) (.c (not_f h19) (.c (not_f h19) (.c (not_f h19) (.c (rfl : true = true) .nil))))))))))))))))

end Go.Proofs.YtiacejpdgjmdfabGreat
