/- The program's structs as plain ones, and how they lie in memory: printed by a program. No condition. -/
import Derived.Test.YtjgnmimfihhphaaVlV
import Derived.Test.YtjgnmimfihhphaaChecked
namespace Go.Proofs.Ytjgnmimfihhphaa
open Go Go.VL

structure TBeam where
  fLeft : Int
  fRight : Int
  fLow : Int
  fHigh : Int
  fWeight : Int
  deriving DecidableEq

structure TJoint where
  fName : ByteArray
  fX : Int
  fY : Int
  fFixed : Bool
  deriving DecidableEq

structure TMember where
  fA : Int
  fB : Int
  fKind : Int
  deriving DecidableEq

structure TStructure where
  fJoints : (List TJoint)
  fMembers : (List TMember)
  deriving DecidableEq

structure TBlock where
  fA : Int
  fB : Int
  fNum : Int
  fDen : Int
  deriving DecidableEq

def eTBeam (x : TBeam) : List AV := [.n .i64 x.fLeft, .n .i64 x.fRight, .n .i64 x.fLow, .n .i64 x.fHigh, .n .i64 x.fWeight]
theorem eTBeam_pure : ∀ x, ∀ v ∈ eTBeam x, Pure v := by
  intro x v hv
  simp only [eTBeam, List.mem_cons, List.not_mem_nil, or_false] at hv
  rcases hv with rfl | rfl | rfl | rfl | rfl
  · exact .n _ _
  · exact .n _ _
  · exact .n _ _
  · exact .n _ _
  · exact .n _ _

def eTJoint (x : TJoint) : List AV := [.s x.fName, .n .i64 x.fX, .n .i64 x.fY, .b x.fFixed]
theorem eTJoint_pure : ∀ x, ∀ v ∈ eTJoint x, Pure v := by
  intro x v hv
  simp only [eTJoint, List.mem_cons, List.not_mem_nil, or_false] at hv
  rcases hv with rfl | rfl | rfl | rfl
  · exact .s _
  · exact .n _ _
  · exact .n _ _
  · exact .b _

def eTMember (x : TMember) : List AV := [.n .i64 x.fA, .n .i64 x.fB, .n .i64 x.fKind]
theorem eTMember_pure : ∀ x, ∀ v ∈ eTMember x, Pure v := by
  intro x v hv
  simp only [eTMember, List.mem_cons, List.not_mem_nil, or_false] at hv
  rcases hv with rfl | rfl | rfl
  · exact .n _ _
  · exact .n _ _
  · exact .n _ _

def eTStructure (x : TStructure) : List AV := [.isl 4 (x.fJoints.map eTJoint), .isl 3 (x.fMembers.map eTMember)]
theorem eTStructure_pure : ∀ x, ∀ v ∈ eTStructure x, Pure v := by
  intro x v hv
  simp only [eTStructure, List.mem_cons, List.not_mem_nil, or_false] at hv
  rcases hv with rfl | rfl
  · exact .isl (pure_map eTJoint_pure _)
  · exact .isl (pure_map eTMember_pure _)

def eTBlock (x : TBlock) : List AV := [.n .i64 x.fA, .n .i64 x.fB, .n .i64 x.fNum, .n .i64 x.fDen]
theorem eTBlock_pure : ∀ x, ∀ v ∈ eTBlock x, Pure v := by
  intro x v hv
  simp only [eTBlock, List.mem_cons, List.not_mem_nil, or_false] at hv
  rcases hv with rfl | rfl | rfl | rfl
  · exact .n _ _
  · exact .n _ _
  · exact .n _ _
  · exact .n _ _

noncomputable abbrev PP : Program := Go.Proofs.Try.prog
theorem hmix : PP.follows .mixedOrders = true := Go.Proofs.Try.checked.mixed


def ITBeam (x : TBeam) : Prop := In64 x.fLeft ∧ In64 x.fRight ∧ In64 x.fLow ∧ In64 x.fHigh ∧ In64 x.fWeight

theorem opens_TBeam_24 (w : World) : Opens Go.Proofs.Try.prog w 24 eTBeam ITBeam where
  pure := eTBeam_pure
  size := fun a => by kernel_rfl
  opens := fun h => by
    obtain ⟨hl, hf⟩ := struct_field Try.underlying24 h
    obtain ⟨a0, i0, c0⟩ := field_at hf 0 0 1 rfl rfl (by kernel_rfl) (opens_int Try.underlying3 (by kernel_rfl))
    obtain ⟨a1, i1, c1⟩ := field_at hf 1 1 1 rfl rfl (by kernel_rfl) (opens_int Try.underlying3 (by kernel_rfl))
    obtain ⟨a2, i2, c2⟩ := field_at hf 2 2 1 rfl rfl (by kernel_rfl) (opens_int Try.underlying3 (by kernel_rfl))
    obtain ⟨a3, i3, c3⟩ := field_at hf 3 3 1 rfl rfl (by kernel_rfl) (opens_int Try.underlying3 (by kernel_rfl))
    obtain ⟨a4, i4, c4⟩ := field_at hf 4 4 1 rfl rfl (by kernel_rfl) (opens_int Try.underlying3 (by kernel_rfl))
    have hn : Go.Proofs.Try.prog.cellsOf 24 = 5 := by kernel_rfl
    exact ⟨⟨a0, a1, a2, a3, a4⟩, ⟨i0, i1, i2, i3, i4⟩, (CellsRel.app c0 (CellsRel.app c1 (CellsRel.app c2 (CellsRel.app c3 (CellsRel.app c4 (CellsRel.end_ (by omega)) (by rfl)) (by rfl)) (by rfl)) (by rfl)) (by rfl))⟩

def ITJoint (x : TJoint) : Prop := (fun s => s.size ≤ maxLen) x.fName ∧ In64 x.fX ∧ In64 x.fY ∧ (fun _ => True) x.fFixed

theorem opens_TJoint_111 (w : World) : Opens Go.Proofs.Try.prog w 111 eTJoint ITJoint where
  pure := eTJoint_pure
  size := fun a => by kernel_rfl
  opens := fun h => by
    obtain ⟨hl, hf⟩ := struct_field Try.underlying111 h
    obtain ⟨a0, i0, c0⟩ := field_at hf 0 0 1 rfl rfl (by kernel_rfl) (opens_string Try.underlying9 (by kernel_rfl))
    obtain ⟨a1, i1, c1⟩ := field_at hf 1 1 1 rfl rfl (by kernel_rfl) (opens_int Try.underlying3 (by kernel_rfl))
    obtain ⟨a2, i2, c2⟩ := field_at hf 2 2 1 rfl rfl (by kernel_rfl) (opens_int Try.underlying3 (by kernel_rfl))
    obtain ⟨a3, i3, c3⟩ := field_at hf 3 3 1 rfl rfl (by kernel_rfl) (opens_bool Try.underlying4 (by kernel_rfl))
    have hn : Go.Proofs.Try.prog.cellsOf 111 = 4 := by kernel_rfl
    exact ⟨⟨a0, a1, a2, a3⟩, ⟨i0, i1, i2, i3⟩, (CellsRel.app c0 (CellsRel.app c1 (CellsRel.app c2 (CellsRel.app c3 (CellsRel.end_ (by omega)) (by rfl)) (by rfl)) (by rfl)) (by rfl))⟩

def ITMember (x : TMember) : Prop := In64 x.fA ∧ In64 x.fB ∧ In64 x.fKind

theorem opens_TMember_116 (w : World) : Opens Go.Proofs.Try.prog w 116 eTMember ITMember where
  pure := eTMember_pure
  size := fun a => by kernel_rfl
  opens := fun h => by
    obtain ⟨hl, hf⟩ := struct_field Try.underlying116 h
    obtain ⟨a0, i0, c0⟩ := field_at hf 0 0 1 rfl rfl (by kernel_rfl) (opens_int Try.underlying3 (by kernel_rfl))
    obtain ⟨a1, i1, c1⟩ := field_at hf 1 1 1 rfl rfl (by kernel_rfl) (opens_int Try.underlying3 (by kernel_rfl))
    obtain ⟨a2, i2, c2⟩ := field_at hf 2 2 1 rfl rfl (by kernel_rfl) (opens_int Try.underlying3 (by kernel_rfl))
    have hn : Go.Proofs.Try.prog.cellsOf 116 = 3 := by kernel_rfl
    exact ⟨⟨a0, a1, a2⟩, ⟨i0, i1, i2⟩, (CellsRel.app c0 (CellsRel.app c1 (CellsRel.app c2 (CellsRel.end_ (by omega)) (by rfl)) (by rfl)) (by rfl))⟩

def ITStructure (x : TStructure) : Prop := (fun l => l.length ≤ maxLen ∧ ∀ x ∈ l, ITJoint x) x.fJoints ∧ (fun l => l.length ≤ maxLen ∧ ∀ x ∈ l, ITMember x) x.fMembers

theorem opens_TStructure_32 (w : World) : Opens Go.Proofs.Try.prog w 32 eTStructure ITStructure where
  pure := eTStructure_pure
  size := fun a => by kernel_rfl
  opens := fun h => by
    obtain ⟨hl, hf⟩ := struct_field Try.underlying32 h
    obtain ⟨a0, i0, c0⟩ := field_at hf 0 0 1 rfl rfl (by kernel_rfl) (opens_slice (sz := 4) Try.underlying29 (by kernel_rfl) (by kernel_rfl) (by decide) (opens_TJoint_111 _))
    obtain ⟨a1, i1, c1⟩ := field_at hf 1 1 1 rfl rfl (by kernel_rfl) (opens_slice (sz := 3) Try.underlying30 (by kernel_rfl) (by kernel_rfl) (by decide) (opens_TMember_116 _))
    have hn : Go.Proofs.Try.prog.cellsOf 32 = 2 := by kernel_rfl
    exact ⟨⟨a0, a1⟩, ⟨i0, i1⟩, (CellsRel.app c0 (CellsRel.app c1 (CellsRel.end_ (by omega)) (by rfl)) (by rfl))⟩

def ITBlock (x : TBlock) : Prop := In64 x.fA ∧ In64 x.fB ∧ In64 x.fNum ∧ In64 x.fDen

theorem opens_TBlock_48 (w : World) : Opens Go.Proofs.Try.prog w 48 eTBlock ITBlock where
  pure := eTBlock_pure
  size := fun a => by kernel_rfl
  opens := fun h => by
    obtain ⟨hl, hf⟩ := struct_field Try.underlying48 h
    obtain ⟨a0, i0, c0⟩ := field_at hf 0 0 1 rfl rfl (by kernel_rfl) (opens_int Try.underlying3 (by kernel_rfl))
    obtain ⟨a1, i1, c1⟩ := field_at hf 1 1 1 rfl rfl (by kernel_rfl) (opens_int Try.underlying3 (by kernel_rfl))
    obtain ⟨a2, i2, c2⟩ := field_at hf 2 2 1 rfl rfl (by kernel_rfl) (opens_int Try.underlying3 (by kernel_rfl))
    obtain ⟨a3, i3, c3⟩ := field_at hf 3 3 1 rfl rfl (by kernel_rfl) (opens_int Try.underlying3 (by kernel_rfl))
    have hn : Go.Proofs.Try.prog.cellsOf 48 = 4 := by kernel_rfl
    exact ⟨⟨a0, a1, a2, a3⟩, ⟨i0, i1, i2, i3⟩, (CellsRel.app c0 (CellsRel.app c1 (CellsRel.app c2 (CellsRel.app c3 (CellsRel.end_ (by omega)) (by rfl)) (by rfl)) (by rfl)) (by rfl))⟩

end Go.Proofs.Ytjgnmimfihhphaa
