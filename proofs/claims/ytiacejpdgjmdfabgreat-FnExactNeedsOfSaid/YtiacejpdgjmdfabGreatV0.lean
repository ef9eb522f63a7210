/- The program's structs as plain ones, and how they lie in memory: printed by a program. No condition. -/
import Derived.Test.YtiacejpdgjmdfabGreatVlX
import Derived.Test.YtiacejpdgjmdfabGreatChecked
namespace Go.Proofs.YtiacejpdgjmdfabGreat
set_option linter.unusedVariables false
set_option linter.unusedSimpArgs false
open Go Go.VL

structure TJoint where
  fName : ByteArray
  fX : Int
  fY : Int
  fFixed : Bool
  deriving DecidableEq

structure TMember where
  fA : Int
  fB : Int
  fKind : Int
  deriving DecidableEq

structure TStructure where
  fJoints : (List TJoint)
  fMembers : (List TMember)
  deriving DecidableEq

structure TBigInt where
  fNeg : Bool
  fMag : (List Int)
  deriving DecidableEq

structure TRat where
  fNum : TBigInt
  fDen : (List Int)
  deriving DecidableEq

structure TRatio_ where
  gNum : TBigInt
  gDen : (List Int)
  deriving DecidableEq

def eTJoint (x : TJoint) : List AV := [.s x.fName, .n .i64 x.fX, .n .i64 x.fY, .b x.fFixed]
theorem eTJoint_nr : ∀ x, ∀ v ∈ eTJoint x, v.noref0 = true := by
  intro x v hv
  simp only [eTJoint, List.mem_cons, List.not_mem_nil, or_false] at hv
  rcases hv with rfl | rfl | rfl | rfl <;> rfl
theorem eTJoint_sc : ∀ x, ∀ v ∈ eTJoint x, Sc v := fun x => (scl_cons (.s _) (scl_cons (.n _ _) (scl_cons (.n _ _) (scl_cons (.b _) scl_nil))))
theorem eTJoint_pure : ∀ x, ∀ v ∈ eTJoint x, Pure v := by
  intro x v hv
  simp only [eTJoint, List.mem_cons, List.not_mem_nil, or_false] at hv
  rcases hv with rfl | rfl | rfl | rfl
  · exact .s _
  · exact .n _ _
  · exact .n _ _
  · exact .b _

def eTMember (x : TMember) : List AV := [.n .i64 x.fA, .n .i64 x.fB, .n .i64 x.fKind]
theorem eTMember_nr : ∀ x, ∀ v ∈ eTMember x, v.noref0 = true := by
  intro x v hv
  simp only [eTMember, List.mem_cons, List.not_mem_nil, or_false] at hv
  rcases hv with rfl | rfl | rfl <;> rfl
theorem eTMember_sc : ∀ x, ∀ v ∈ eTMember x, Sc v := fun x => (scl_cons (.n _ _) (scl_cons (.n _ _) (scl_cons (.n _ _) scl_nil)))
theorem eTMember_pure : ∀ x, ∀ v ∈ eTMember x, Pure v := by
  intro x v hv
  simp only [eTMember, List.mem_cons, List.not_mem_nil, or_false] at hv
  rcases hv with rfl | rfl | rfl
  · exact .n _ _
  · exact .n _ _
  · exact .n _ _

def eTStructure (x : TStructure) : List AV := [.isl 4 (x.fJoints.map eTJoint), .isl 3 (x.fMembers.map eTMember)]
theorem eTStructure_nr : ∀ x, ∀ v ∈ eTStructure x, v.noref0 = true := by
  intro x v hv
  simp only [eTStructure, List.mem_cons, List.not_mem_nil, or_false] at hv
  rcases hv with rfl | rfl <;> rfl
theorem eTStructure_pure : ∀ x, ∀ v ∈ eTStructure x, Pure v := by
  intro x v hv
  simp only [eTStructure, List.mem_cons, List.not_mem_nil, or_false] at hv
  rcases hv with rfl | rfl
  · exact .isl (pure_map eTJoint_pure _)
  · exact .isl (pure_map eTMember_pure _)

def eTBigInt (x : TBigInt) : List AV := [.b x.fNeg, .isl 1 (x.fMag.map eI)]
theorem eTBigInt_nr : ∀ x, ∀ v ∈ eTBigInt x, v.noref0 = true := by
  intro x v hv
  simp only [eTBigInt, List.mem_cons, List.not_mem_nil, or_false] at hv
  rcases hv with rfl | rfl <;> rfl
theorem eTBigInt_pure : ∀ x, ∀ v ∈ eTBigInt x, Pure v := by
  intro x v hv
  simp only [eTBigInt, List.mem_cons, List.not_mem_nil, or_false] at hv
  rcases hv with rfl | rfl
  · exact .b _
  · exact .isl (pure_map eI_pure _)

def eTRat (x : TRat) : List AV := [.b x.fNum.fNeg, .isl 1 (x.fNum.fMag.map eI), .isl 1 (x.fDen.map eI)]
theorem eTRat_nr : ∀ x, ∀ v ∈ eTRat x, v.noref0 = true := by
  intro x v hv
  simp only [eTRat, List.mem_cons, List.not_mem_nil, or_false] at hv
  rcases hv with rfl | rfl | rfl <;> rfl
theorem eTRat_pure : ∀ x, ∀ v ∈ eTRat x, Pure v := by
  intro x v hv
  simp only [eTRat, List.mem_cons, List.not_mem_nil, or_false] at hv
  rcases hv with rfl | rfl | rfl
  · exact .b _
  · exact .isl (pure_map eI_pure _)
  · exact .isl (pure_map eI_pure _)

def eTRatio_ (x : TRatio_) : List AV := [.b x.gNum.fNeg, .isl 1 (x.gNum.fMag.map eI), .isl 1 (x.gDen.map eI)]
theorem eTRatio__nr : ∀ x, ∀ v ∈ eTRatio_ x, v.noref0 = true := by
  intro x v hv
  simp only [eTRatio_, List.mem_cons, List.not_mem_nil, or_false] at hv
  rcases hv with rfl | rfl | rfl <;> rfl
theorem eTRatio__pure : ∀ x, ∀ v ∈ eTRatio_ x, Pure v := by
  intro x v hv
  simp only [eTRatio_, List.mem_cons, List.not_mem_nil, or_false] at hv
  rcases hv with rfl | rfl | rfl
  · exact .b _
  · exact .isl (pure_map eI_pure _)
  · exact .isl (pure_map eI_pure _)

structure OTBigInt where
  fNeg : Bool
  fMag : HO

def eOTBigInt (rp c : Nat) (x : OTBigInt) : List AV := [.b x.fNeg, aH rp c 1 x.fMag]
theorem eOTBigInt_rn {tgt : Nat → Option Nat} {rp rp' c : Nat} (ht : tgt rp = some rp') (x : OTBigInt) : (eOTBigInt rp c x).map (rnV tgt) = eOTBigInt rp' c x := by
  simp only [eOTBigInt, List.map_cons, List.map_nil, aH_rn ht]; rfl
theorem eOTBigInt_rx {mv : Mv} {rp rp' c c' : Nat} (hm : ∀ k, mv rp' (k + c') = some (rp, k + c)) (x : OTBigInt) : RxL mv (eOTBigInt rp c x) (eOTBigInt rp' c' x) := ⟨rxv_id rfl, aH_rx hm _, trivial⟩
theorem eOTBigInt_sc (rp c : Nat) : ∀ x, ∀ v ∈ eOTBigInt rp c x, Sc v := fun x => (scl_cons (.b _) (scl_cons (aH_sc _ _ _ _) scl_nil))
def vwOTBigInt (P : (List (List Int))) (x : OTBigInt) : TBigInt := ⟨x.fNeg, vwH P x.fMag⟩
def inOTBigInt (P : (List (List Int))) (x : OTBigInt) : Bool := inH P x.fMag
theorem dvOTBigInt {kd : Kd} {P : (List (List Int))} {raw : List Ob} {rp c : Nat} {heads : List Ob} {al : Kd → Bool} (e : raw = P.map (poolO kd 1 eI)) (hc : heads.length = c) (hk : kd ≠ .gone) (ha : al kd = true) {x : OTBigInt} (h : inOTBigInt P x = true) : DVL rp (heads ++ raw) al (eOTBigInt rp c x) (eTBigInt (vwOTBigInt P x)) := by
  simp only [inOTBigInt, Bool.and_eq_true] at h
  have h0 := h
  exact ⟨dvx_id rfl, dvx_H e eI_pure hc hk ha h0, trivial⟩

structure OTRat where
  fNum : OTBigInt
  fDen : HO

def eOTRat (rp c : Nat) (x : OTRat) : List AV := [.b x.fNum.fNeg, aH rp c 1 x.fNum.fMag, aH rp c 1 x.fDen]
theorem eOTRat_rn {tgt : Nat → Option Nat} {rp rp' c : Nat} (ht : tgt rp = some rp') (x : OTRat) : (eOTRat rp c x).map (rnV tgt) = eOTRat rp' c x := by
  simp only [eOTRat, List.map_cons, List.map_nil, aH_rn ht]; rfl
theorem eOTRat_rx {mv : Mv} {rp rp' c c' : Nat} (hm : ∀ k, mv rp' (k + c') = some (rp, k + c)) (x : OTRat) : RxL mv (eOTRat rp c x) (eOTRat rp' c' x) := ⟨rxv_id rfl, aH_rx hm _, aH_rx hm _, trivial⟩
theorem eOTRat_sc (rp c : Nat) : ∀ x, ∀ v ∈ eOTRat rp c x, Sc v := fun x => (scl_cons (.b _) (scl_cons (aH_sc _ _ _ _) (scl_cons (aH_sc _ _ _ _) scl_nil)))
def vwOTRat (P : (List (List Int))) (x : OTRat) : TRat := ⟨⟨x.fNum.fNeg, vwH P x.fNum.fMag⟩, vwH P x.fDen⟩
def inOTRat (P : (List (List Int))) (x : OTRat) : Bool := inH P x.fNum.fMag && inH P x.fDen
theorem dvOTRat {kd : Kd} {P : (List (List Int))} {raw : List Ob} {rp c : Nat} {heads : List Ob} {al : Kd → Bool} (e : raw = P.map (poolO kd 1 eI)) (hc : heads.length = c) (hk : kd ≠ .gone) (ha : al kd = true) {x : OTRat} (h : inOTRat P x = true) : DVL rp (heads ++ raw) al (eOTRat rp c x) (eTRat (vwOTRat P x)) := by
  simp only [inOTRat, Bool.and_eq_true] at h
  obtain ⟨h0, h1⟩ := h
  exact ⟨dvx_id rfl, dvx_H e eI_pure hc hk ha h0, dvx_H e eI_pure hc hk ha h1, trivial⟩

noncomputable abbrev PP : Program := Go.Proofs.Tryz.prog
theorem hmix : PP.follows .mixedOrders = true := Go.Proofs.Tryz.checked.mixed


def ITJoint (x : TJoint) : Prop := (fun s => s.size ≤ maxLen) x.fName ∧ In64 x.fX ∧ In64 x.fY ∧ (fun _ => True) x.fFixed

theorem opens_TJoint_77 (w : World) : Opens Go.Proofs.Tryz.prog w 77 eTJoint ITJoint where
  pure := eTJoint_pure
  size := fun a => by kernel_rfl
  opens := fun h => by
    obtain ⟨hl, hf⟩ := struct_field Tryz.underlying77 h
    obtain ⟨a0, i0, c0⟩ := field_at hf 0 0 1 rfl rfl (by kernel_rfl) (opens_string Tryz.underlying9 (by kernel_rfl))
    obtain ⟨a1, i1, c1⟩ := field_at hf 1 1 1 rfl rfl (by kernel_rfl) (opens_int Tryz.underlying3 (by kernel_rfl))
    obtain ⟨a2, i2, c2⟩ := field_at hf 2 2 1 rfl rfl (by kernel_rfl) (opens_int Tryz.underlying3 (by kernel_rfl))
    obtain ⟨a3, i3, c3⟩ := field_at hf 3 3 1 rfl rfl (by kernel_rfl) (opens_bool Tryz.underlying4 (by kernel_rfl))
    have hn : Go.Proofs.Tryz.prog.cellsOf 77 = 4 := by kernel_rfl
    exact ⟨⟨a0, a1, a2, a3⟩, ⟨i0, i1, i2, i3⟩, (CellsRel.app c0 (CellsRel.app c1 (CellsRel.app c2 (CellsRel.app c3 (CellsRel.end_ (by omega)) (by rfl)) (by rfl)) (by rfl)) (by rfl))⟩

def ITMember (x : TMember) : Prop := In64 x.fA ∧ In64 x.fB ∧ In64 x.fKind

theorem opens_TMember_91 (w : World) : Opens Go.Proofs.Tryz.prog w 91 eTMember ITMember where
  pure := eTMember_pure
  size := fun a => by kernel_rfl
  opens := fun h => by
    obtain ⟨hl, hf⟩ := struct_field Tryz.underlying91 h
    obtain ⟨a0, i0, c0⟩ := field_at hf 0 0 1 rfl rfl (by kernel_rfl) (opens_int Tryz.underlying3 (by kernel_rfl))
    obtain ⟨a1, i1, c1⟩ := field_at hf 1 1 1 rfl rfl (by kernel_rfl) (opens_int Tryz.underlying3 (by kernel_rfl))
    obtain ⟨a2, i2, c2⟩ := field_at hf 2 2 1 rfl rfl (by kernel_rfl) (opens_int Tryz.underlying3 (by kernel_rfl))
    have hn : Go.Proofs.Tryz.prog.cellsOf 91 = 3 := by kernel_rfl
    exact ⟨⟨a0, a1, a2⟩, ⟨i0, i1, i2⟩, (CellsRel.app c0 (CellsRel.app c1 (CellsRel.app c2 (CellsRel.end_ (by omega)) (by rfl)) (by rfl)) (by rfl))⟩

def ITStructure (x : TStructure) : Prop := (fun l => l.length ≤ maxLen ∧ ∀ x ∈ l, ITJoint x) x.fJoints ∧ (fun l => l.length ≤ maxLen ∧ ∀ x ∈ l, ITMember x) x.fMembers

theorem opens_TStructure_25 (w : World) : Opens Go.Proofs.Tryz.prog w 25 eTStructure ITStructure where
  pure := eTStructure_pure
  size := fun a => by kernel_rfl
  opens := fun h => by
    obtain ⟨hl, hf⟩ := struct_field Tryz.underlying25 h
    obtain ⟨a0, i0, c0⟩ := field_at hf 0 0 1 rfl rfl (by kernel_rfl) (opens_slice (sz := 4) Tryz.underlying22 (by kernel_rfl) (by kernel_rfl) (by decide) (opens_TJoint_77 _))
    obtain ⟨a1, i1, c1⟩ := field_at hf 1 1 1 rfl rfl (by kernel_rfl) (opens_slice (sz := 3) Tryz.underlying23 (by kernel_rfl) (by kernel_rfl) (by decide) (opens_TMember_91 _))
    have hn : Go.Proofs.Tryz.prog.cellsOf 25 = 2 := by kernel_rfl
    exact ⟨⟨a0, a1⟩, ⟨i0, i1⟩, (CellsRel.app c0 (CellsRel.app c1 (CellsRel.end_ (by omega)) (by rfl)) (by rfl))⟩

def ITBigInt (x : TBigInt) : Prop := (fun _ => True) x.fNeg ∧ (fun l => l.length ≤ maxLen ∧ ∀ x ∈ l, In64 x) x.fMag

theorem opens_TBigInt_50 (w : World) : Opens Go.Proofs.Tryz.prog w 50 eTBigInt ITBigInt where
  pure := eTBigInt_pure
  size := fun a => by kernel_rfl
  opens := fun h => by
    obtain ⟨hl, hf⟩ := struct_field Tryz.underlying50 h
    obtain ⟨a0, i0, c0⟩ := field_at hf 0 0 1 rfl rfl (by kernel_rfl) (opens_bool Tryz.underlying4 (by kernel_rfl))
    obtain ⟨a1, i1, c1⟩ := field_at hf 1 1 1 rfl rfl (by kernel_rfl) (opens_slice (sz := 1) Tryz.underlying29 (by kernel_rfl) (by kernel_rfl) (by decide) (opens_int Tryz.underlying3 (by kernel_rfl)))
    have hn : Go.Proofs.Tryz.prog.cellsOf 50 = 2 := by kernel_rfl
    exact ⟨⟨a0, a1⟩, ⟨i0, i1⟩, (CellsRel.app c0 (CellsRel.app c1 (CellsRel.end_ (by omega)) (by rfl)) (by rfl))⟩

def ITRat (x : TRat) : Prop := ITBigInt x.fNum ∧ (fun l => l.length ≤ maxLen ∧ ∀ x ∈ l, In64 x) x.fDen

theorem opens_TRat_52 (w : World) : Opens Go.Proofs.Tryz.prog w 52 eTRat ITRat where
  pure := eTRat_pure
  size := fun a => by kernel_rfl
  opens := fun h => by
    obtain ⟨hl, hf⟩ := struct_field Tryz.underlying52 h
    obtain ⟨a0, i0, c0⟩ := field_at hf 0 0 2 rfl rfl (by kernel_rfl) (opens_TBigInt_50 _)
    obtain ⟨a1, i1, c1⟩ := field_at hf 1 2 1 rfl rfl (by kernel_rfl) (opens_slice (sz := 1) Tryz.underlying29 (by kernel_rfl) (by kernel_rfl) (by decide) (opens_int Tryz.underlying3 (by kernel_rfl)))
    have hn : Go.Proofs.Tryz.prog.cellsOf 52 = 3 := by kernel_rfl
    exact ⟨⟨a0, a1⟩, ⟨i0, i1⟩, (CellsRel.app c0 (CellsRel.app c1 (CellsRel.end_ (by omega)) (by rfl)) (by rfl))⟩

end Go.Proofs.YtiacejpdgjmdfabGreat
