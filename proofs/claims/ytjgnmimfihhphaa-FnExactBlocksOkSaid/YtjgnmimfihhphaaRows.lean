/-
  No cell of these rows narrows 'for every input' (looked for: loops, veiled, ifaces, maps, wideKeys, modest, calm, conditions, laid).
  DERIVED. THE GIVEN ROWS OF THIS SEAT. 10 by the template 'for every input the law returns true; each argument reads behind the call as it read before'; 0 by the template 'total and deterministic' (their statements: YtjgnmimfihhphaaTotals.lean).
  GIVEN WITH THE SEED: the statements are not yours to turn. If you find one false, say at which input.
  Laid BY PROGRAM, IN A SANDBOX (cutbox-rows.mjs): the forced cells as the released guide's own fill.sh prints them over the translation 9f7df0b7b9064334… (all of the seat's roots in one cut). By AI agents, Wed Nov 11 2026. No macro, syntax, notation, axiom, sorry.
-/
import Derived.Test.YtjgnmimfihhphaaChecked
import GoSem.Claim
import GoSem.ClaimJoined
import GoSem.ClaimMapViews
import Derived.JoinedTies
import Derived.KernelRfl
namespace Go.Proofs.Ytjgnmimfihhphaa
/- THE CELL 'sum', in the pinned program and in every row, IS THE sha256 OF THE DUMP (.gsa) THAT YtjgnmimfihhphaaProg.lean LOADS. Nothing in Lean hashes anything: it is a label: what it is worth is what the hold of that sum in a sandbox is worth. -/
noncomputable def Try.pinned : Pinned := { name := "ytjgnmimfihhphaa", sum := "9f7df0b7b90643340ca0f145414722ef8d8a1b219474643c82ab5138729450fb", checked := Try.checked }
namespace Rows
def none {H : Type} : Left H := { results := [], args := [] }

/-- 'laws.FnExactIsSteep': WHATEVER THE INPUT: true; the input reads as it did. -/
def fnExactIsSteepSpec : ChangeSpec := { name := "fnExactIsSteep", fn := fun _ => fun
  | [d1, d2, d3, d4] => { results := [.lit (.bool true)], args := [d1, d2, d3, d4] }
  | _ => none }
def fnExactIsSteepRow : OpenClaim := { program := "ytjgnmimfihhphaa", sum := "9f7df0b7b90643340ca0f145414722ef8d8a1b219474643c82ab5138729450fb", func := "loop.example/g00830/laws.FnExactIsSteep", spec := "fnExactIsSteep", apart := false }
def FnExactIsSteepSaid : Prop := fnExactIsSteepRow.holds Try.pinned (OpenSpec.ofChange fnExactIsSteepSpec)

/-- ITS FALSE NEIGHBOUR: 'it returns false'. Refute it at one input. -/
def fnExactIsSteepWrong : ChangeSpec := { name := "fnExactIsSteep", fn := fun _ => fun
  | [d1, d2, d3, d4] => { results := [.lit (.bool false)], args := [d1, d2, d3, d4] }
  | _ => none }
def FnExactIsSteepWrongFalsely : Prop := fnExactIsSteepRow.holds Try.pinned (OpenSpec.ofChange fnExactIsSteepWrong)

/-- 'laws.FnExactBeamOk': WHATEVER THE INPUT: true; the input reads as it did. -/
def fnExactBeamOkSpec : ChangeSpec := { name := "fnExactBeamOk", fn := fun _ => fun
  | [d] => { results := [.lit (.bool true)], args := [d] }
  | _ => none }
def fnExactBeamOkRow : OpenClaim := { program := "ytjgnmimfihhphaa", sum := "9f7df0b7b90643340ca0f145414722ef8d8a1b219474643c82ab5138729450fb", func := "loop.example/g00830/laws.FnExactBeamOk", spec := "fnExactBeamOk", apart := false }
def FnExactBeamOkSaid : Prop := fnExactBeamOkRow.holds Try.pinned (OpenSpec.ofChange fnExactBeamOkSpec)

/-- ITS FALSE NEIGHBOUR: 'it returns false'. Refute it at one input. -/
def fnExactBeamOkWrong : ChangeSpec := { name := "fnExactBeamOk", fn := fun _ => fun
  | [d] => { results := [.lit (.bool false)], args := [d] }
  | _ => none }
def FnExactBeamOkWrongFalsely : Prop := fnExactBeamOkRow.holds Try.pinned (OpenSpec.ofChange fnExactBeamOkWrong)

/-- 'laws.FnExactLimitsOk': WHATEVER THE INPUT: true; the input reads as it did. -/
def fnExactLimitsOkSpec : ChangeSpec := { name := "fnExactLimitsOk", fn := fun _ => fun
  | [d1, d2] => { results := [.lit (.bool true)], args := [d1, d2] }
  | _ => none }
def fnExactLimitsOkRow : OpenClaim := { program := "ytjgnmimfihhphaa", sum := "9f7df0b7b90643340ca0f145414722ef8d8a1b219474643c82ab5138729450fb", func := "loop.example/g00830/laws.FnExactLimitsOk", spec := "fnExactLimitsOk", unfollowed := true, recurses := true, apart := false }
def FnExactLimitsOkSaid : Prop := fnExactLimitsOkRow.holds Try.pinned (OpenSpec.ofChange fnExactLimitsOkSpec)

/-- ITS FALSE NEIGHBOUR: 'it returns false'. Refute it at one input. -/
def fnExactLimitsOkWrong : ChangeSpec := { name := "fnExactLimitsOk", fn := fun _ => fun
  | [d1, d2] => { results := [.lit (.bool false)], args := [d1, d2] }
  | _ => none }
def FnExactLimitsOkWrongFalsely : Prop := fnExactLimitsOkRow.holds Try.pinned (OpenSpec.ofChange fnExactLimitsOkWrong)

/-- 'laws.FnExactLengthOf': WHATEVER THE INPUT: true; the input reads as it did. -/
def fnExactLengthOfSpec : ChangeSpec := { name := "fnExactLengthOf", fn := fun _ => fun
  | [d1, d2] => { results := [.lit (.bool true)], args := [d1, d2] }
  | _ => none }
def fnExactLengthOfRow : OpenClaim := { program := "ytjgnmimfihhphaa", sum := "9f7df0b7b90643340ca0f145414722ef8d8a1b219474643c82ab5138729450fb", func := "loop.example/g00830/laws.FnExactLengthOf", spec := "fnExactLengthOf", unfollowed := true, recurses := true, apart := false }
def FnExactLengthOfSaid : Prop := fnExactLengthOfRow.holds Try.pinned (OpenSpec.ofChange fnExactLengthOfSpec)

/-- ITS FALSE NEIGHBOUR: 'it returns false'. Refute it at one input. -/
def fnExactLengthOfWrong : ChangeSpec := { name := "fnExactLengthOf", fn := fun _ => fun
  | [d1, d2] => { results := [.lit (.bool false)], args := [d1, d2] }
  | _ => none }
def FnExactLengthOfWrongFalsely : Prop := fnExactLengthOfRow.holds Try.pinned (OpenSpec.ofChange fnExactLengthOfWrong)

/-- 'laws.FnExactBlockOk': WHATEVER THE INPUT: true; the input reads as it did. -/
def fnExactBlockOkSpec : ChangeSpec := { name := "fnExactBlockOk", fn := fun _ => fun
  | [d1, d2] => { results := [.lit (.bool true)], args := [d1, d2] }
  | _ => none }
def fnExactBlockOkRow : OpenClaim := { program := "ytjgnmimfihhphaa", sum := "9f7df0b7b90643340ca0f145414722ef8d8a1b219474643c82ab5138729450fb", func := "loop.example/g00830/laws.FnExactBlockOk", spec := "fnExactBlockOk", unfollowed := true, recurses := true, apart := false }
def FnExactBlockOkSaid : Prop := fnExactBlockOkRow.holds Try.pinned (OpenSpec.ofChange fnExactBlockOkSpec)

/-- ITS FALSE NEIGHBOUR: 'it returns false'. Refute it at one input. -/
def fnExactBlockOkWrong : ChangeSpec := { name := "fnExactBlockOk", fn := fun _ => fun
  | [d1, d2] => { results := [.lit (.bool false)], args := [d1, d2] }
  | _ => none }
def FnExactBlockOkWrongFalsely : Prop := fnExactBlockOkRow.holds Try.pinned (OpenSpec.ofChange fnExactBlockOkWrong)

/-- 'laws.FnExactCasesOk': WHATEVER THE INPUT: true; the input reads as it did. -/
def fnExactCasesOkSpec : ChangeSpec := { name := "fnExactCasesOk", fn := fun _ => fun
  | [d1, d2] => { results := [.lit (.bool true)], args := [d1, d2] }
  | _ => none }
def fnExactCasesOkRow : OpenClaim := { program := "ytjgnmimfihhphaa", sum := "9f7df0b7b90643340ca0f145414722ef8d8a1b219474643c82ab5138729450fb", func := "loop.example/g00830/laws.FnExactCasesOk", spec := "fnExactCasesOk", unfollowed := true, recurses := true, apart := false }
def FnExactCasesOkSaid : Prop := fnExactCasesOkRow.holds Try.pinned (OpenSpec.ofChange fnExactCasesOkSpec)

/-- ITS FALSE NEIGHBOUR: 'it returns false'. Refute it at one input. -/
def fnExactCasesOkWrong : ChangeSpec := { name := "fnExactCasesOk", fn := fun _ => fun
  | [d1, d2] => { results := [.lit (.bool false)], args := [d1, d2] }
  | _ => none }
def FnExactCasesOkWrongFalsely : Prop := fnExactCasesOkRow.holds Try.pinned (OpenSpec.ofChange fnExactCasesOkWrong)

/-- 'laws.FnExactBlocksOk': WHATEVER THE INPUT: true; the input reads as it did. -/
def fnExactBlocksOkSpec : ChangeSpec := { name := "fnExactBlocksOk", fn := fun _ => fun
  | [d1, d2] => { results := [.lit (.bool true)], args := [d1, d2] }
  | _ => none }
def fnExactBlocksOkRow : OpenClaim := { program := "ytjgnmimfihhphaa", sum := "9f7df0b7b90643340ca0f145414722ef8d8a1b219474643c82ab5138729450fb", func := "loop.example/g00830/laws.FnExactBlocksOk", spec := "fnExactBlocksOk", unfollowed := true, recurses := true, apart := false }
def FnExactBlocksOkSaid : Prop := fnExactBlocksOkRow.holds Try.pinned (OpenSpec.ofChange fnExactBlocksOkSpec)

/-- ITS FALSE NEIGHBOUR: 'it returns false'. Refute it at one input. -/
def fnExactBlocksOkWrong : ChangeSpec := { name := "fnExactBlocksOk", fn := fun _ => fun
  | [d1, d2] => { results := [.lit (.bool false)], args := [d1, d2] }
  | _ => none }
def FnExactBlocksOkWrongFalsely : Prop := fnExactBlocksOkRow.holds Try.pinned (OpenSpec.ofChange fnExactBlocksOkWrong)

/-- 'laws.FnExactPlacesOf': WHATEVER THE INPUT: true; the input reads as it did. -/
def fnExactPlacesOfSpec : ChangeSpec := { name := "fnExactPlacesOf", fn := fun _ => fun
  | [d] => { results := [.lit (.bool true)], args := [d] }
  | _ => none }
def fnExactPlacesOfRow : OpenClaim := { program := "ytjgnmimfihhphaa", sum := "9f7df0b7b90643340ca0f145414722ef8d8a1b219474643c82ab5138729450fb", func := "loop.example/g00830/laws.FnExactPlacesOf", spec := "fnExactPlacesOf", unfollowed := true, recurses := true, apart := false }
def FnExactPlacesOfSaid : Prop := fnExactPlacesOfRow.holds Try.pinned (OpenSpec.ofChange fnExactPlacesOfSpec)

/-- ITS FALSE NEIGHBOUR: 'it returns false'. Refute it at one input. -/
def fnExactPlacesOfWrong : ChangeSpec := { name := "fnExactPlacesOf", fn := fun _ => fun
  | [d] => { results := [.lit (.bool false)], args := [d] }
  | _ => none }
def FnExactPlacesOfWrongFalsely : Prop := fnExactPlacesOfRow.holds Try.pinned (OpenSpec.ofChange fnExactPlacesOfWrong)

/-- 'laws.FnExactCaseProgram': WHATEVER THE INPUT: true; the input reads as it did. -/
def fnExactCaseProgramSpec : ChangeSpec := { name := "fnExactCaseProgram", fn := fun _ => fun
  | [d1, d2] => { results := [.lit (.bool true)], args := [d1, d2] }
  | _ => none }
def fnExactCaseProgramRow : OpenClaim := { program := "ytjgnmimfihhphaa", sum := "9f7df0b7b90643340ca0f145414722ef8d8a1b219474643c82ab5138729450fb", func := "loop.example/g00830/laws.FnExactCaseProgram", spec := "fnExactCaseProgram", unfollowed := true, recurses := true, apart := false }
def FnExactCaseProgramSaid : Prop := fnExactCaseProgramRow.holds Try.pinned (OpenSpec.ofChange fnExactCaseProgramSpec)

/-- ITS FALSE NEIGHBOUR: 'it returns false'. Refute it at one input. -/
def fnExactCaseProgramWrong : ChangeSpec := { name := "fnExactCaseProgram", fn := fun _ => fun
  | [d1, d2] => { results := [.lit (.bool false)], args := [d1, d2] }
  | _ => none }
def FnExactCaseProgramWrongFalsely : Prop := fnExactCaseProgramRow.holds Try.pinned (OpenSpec.ofChange fnExactCaseProgramWrong)

/-- 'laws.FnExactBlockProgram': WHATEVER THE INPUT: true; the input reads as it did. -/
def fnExactBlockProgramSpec : ChangeSpec := { name := "fnExactBlockProgram", fn := fun _ => fun
  | [d1, d2, d3] => { results := [.lit (.bool true)], args := [d1, d2, d3] }
  | _ => none }
def fnExactBlockProgramRow : OpenClaim := { program := "ytjgnmimfihhphaa", sum := "9f7df0b7b90643340ca0f145414722ef8d8a1b219474643c82ab5138729450fb", func := "loop.example/g00830/laws.FnExactBlockProgram", spec := "fnExactBlockProgram", unfollowed := true, recurses := true, apart := false }
def FnExactBlockProgramSaid : Prop := fnExactBlockProgramRow.holds Try.pinned (OpenSpec.ofChange fnExactBlockProgramSpec)

/-- ITS FALSE NEIGHBOUR: 'it returns false'. Refute it at one input. -/
def fnExactBlockProgramWrong : ChangeSpec := { name := "fnExactBlockProgram", fn := fun _ => fun
  | [d1, d2, d3] => { results := [.lit (.bool false)], args := [d1, d2, d3] }
  | _ => none }
def FnExactBlockProgramWrongFalsely : Prop := fnExactBlockProgramRow.holds Try.pinned (OpenSpec.ofChange fnExactBlockProgramWrong)

/- THE SECOND FORM. 'bulk': how many values and letters a reading holds, each counted each time it is reached (what is shared counts as often as it is met; a slice's spare places count too). A statement '..UptoSaid' is the law's where the arguments, and the package variables that the reading takes, are together of bulk at most 1048576: NARROWER than '..Said'. Prove '..Said' where nothing that the law and all that it calls make is longer than what came in: it says more and counts as full. Else prove '..UptoSaid'. A law counts once. -/
mutual
def uptoBulk {H : Type} : DataW H → Nat
  | .lit (.string bytes) => bytes.length + 1
  | .lit _ => 1
  | .nil => 1
  | .ptr d => uptoBulk d + 1
  | .slice elems spare => uptoBulkAll elems + uptoBulkAll spare + 1
  | .agg parts => uptoBulkAll parts + 1
  | .iface _ d => uptoBulk d + 1
  | .map entries => uptoBulkEntries entries + 1
  | .held _ => 1
def uptoBulkAll {H : Type} : List (DataW H) → Nat
  | [] => 0
  | d :: r => uptoBulk d + uptoBulkAll r
def uptoBulkEntries {H : Type} : List (Lit × DataW H) → Nat
  | [] => 0
  | x :: r => uptoBulkEntry x + uptoBulkEntries r
def uptoBulkEntry {H : Type} : Lit × DataW H → Nat
  | (.string bytes, d) => bytes.length + uptoBulk d + 1
  | (_, d) => uptoBulk d + 1
 end
def uptoSmall : (H : Type) → List (DataW H) → Bool := fun _ ds => decide (uptoBulkAll ds ≤ 1048576)
def OpenSpec.upto (s : _root_.Go.ChangeSpec) : _root_.Go.OpenSpec := { _root_.Go.OpenSpec.ofChange s with cond := some uptoSmall }

/-- 'laws.FnExactIsSteep', WHERE WHAT IT READS IS OF BULK AT MOST 1048576: true; the input reads as it did. -/
def fnExactIsSteepUptoRow : OpenClaim := { program := "ytjgnmimfihhphaa", sum := "9f7df0b7b90643340ca0f145414722ef8d8a1b219474643c82ab5138729450fb", func := "loop.example/g00830/laws.FnExactIsSteep", spec := "fnExactIsSteep", apart := false, narrowed := true }
def FnExactIsSteepUptoSaid : Prop := fnExactIsSteepUptoRow.holds Try.pinned (OpenSpec.upto fnExactIsSteepSpec)

/-- 'laws.FnExactBeamOk', WHERE WHAT IT READS IS OF BULK AT MOST 1048576: true; the input reads as it did. -/
def fnExactBeamOkUptoRow : OpenClaim := { program := "ytjgnmimfihhphaa", sum := "9f7df0b7b90643340ca0f145414722ef8d8a1b219474643c82ab5138729450fb", func := "loop.example/g00830/laws.FnExactBeamOk", spec := "fnExactBeamOk", apart := false, narrowed := true }
def FnExactBeamOkUptoSaid : Prop := fnExactBeamOkUptoRow.holds Try.pinned (OpenSpec.upto fnExactBeamOkSpec)

/-- 'laws.FnExactLimitsOk', WHERE WHAT IT READS IS OF BULK AT MOST 1048576: true; the input reads as it did. -/
def fnExactLimitsOkUptoRow : OpenClaim := { program := "ytjgnmimfihhphaa", sum := "9f7df0b7b90643340ca0f145414722ef8d8a1b219474643c82ab5138729450fb", func := "loop.example/g00830/laws.FnExactLimitsOk", spec := "fnExactLimitsOk", unfollowed := true, recurses := true, apart := false, narrowed := true }
def FnExactLimitsOkUptoSaid : Prop := fnExactLimitsOkUptoRow.holds Try.pinned (OpenSpec.upto fnExactLimitsOkSpec)

/-- 'laws.FnExactLengthOf', WHERE WHAT IT READS IS OF BULK AT MOST 1048576: true; the input reads as it did. -/
def fnExactLengthOfUptoRow : OpenClaim := { program := "ytjgnmimfihhphaa", sum := "9f7df0b7b90643340ca0f145414722ef8d8a1b219474643c82ab5138729450fb", func := "loop.example/g00830/laws.FnExactLengthOf", spec := "fnExactLengthOf", unfollowed := true, recurses := true, apart := false, narrowed := true }
def FnExactLengthOfUptoSaid : Prop := fnExactLengthOfUptoRow.holds Try.pinned (OpenSpec.upto fnExactLengthOfSpec)

/-- 'laws.FnExactBlockOk', WHERE WHAT IT READS IS OF BULK AT MOST 1048576: true; the input reads as it did. -/
def fnExactBlockOkUptoRow : OpenClaim := { program := "ytjgnmimfihhphaa", sum := "9f7df0b7b90643340ca0f145414722ef8d8a1b219474643c82ab5138729450fb", func := "loop.example/g00830/laws.FnExactBlockOk", spec := "fnExactBlockOk", unfollowed := true, recurses := true, apart := false, narrowed := true }
def FnExactBlockOkUptoSaid : Prop := fnExactBlockOkUptoRow.holds Try.pinned (OpenSpec.upto fnExactBlockOkSpec)

/-- 'laws.FnExactCasesOk', WHERE WHAT IT READS IS OF BULK AT MOST 1048576: true; the input reads as it did. -/
def fnExactCasesOkUptoRow : OpenClaim := { program := "ytjgnmimfihhphaa", sum := "9f7df0b7b90643340ca0f145414722ef8d8a1b219474643c82ab5138729450fb", func := "loop.example/g00830/laws.FnExactCasesOk", spec := "fnExactCasesOk", unfollowed := true, recurses := true, apart := false, narrowed := true }
def FnExactCasesOkUptoSaid : Prop := fnExactCasesOkUptoRow.holds Try.pinned (OpenSpec.upto fnExactCasesOkSpec)

/-- 'laws.FnExactBlocksOk', WHERE WHAT IT READS IS OF BULK AT MOST 1048576: true; the input reads as it did. -/
def fnExactBlocksOkUptoRow : OpenClaim := { program := "ytjgnmimfihhphaa", sum := "9f7df0b7b90643340ca0f145414722ef8d8a1b219474643c82ab5138729450fb", func := "loop.example/g00830/laws.FnExactBlocksOk", spec := "fnExactBlocksOk", unfollowed := true, recurses := true, apart := false, narrowed := true }
def FnExactBlocksOkUptoSaid : Prop := fnExactBlocksOkUptoRow.holds Try.pinned (OpenSpec.upto fnExactBlocksOkSpec)

/-- 'laws.FnExactPlacesOf', WHERE WHAT IT READS IS OF BULK AT MOST 1048576: true; the input reads as it did. -/
def fnExactPlacesOfUptoRow : OpenClaim := { program := "ytjgnmimfihhphaa", sum := "9f7df0b7b90643340ca0f145414722ef8d8a1b219474643c82ab5138729450fb", func := "loop.example/g00830/laws.FnExactPlacesOf", spec := "fnExactPlacesOf", unfollowed := true, recurses := true, apart := false, narrowed := true }
def FnExactPlacesOfUptoSaid : Prop := fnExactPlacesOfUptoRow.holds Try.pinned (OpenSpec.upto fnExactPlacesOfSpec)

/-- 'laws.FnExactCaseProgram', WHERE WHAT IT READS IS OF BULK AT MOST 1048576: true; the input reads as it did. -/
def fnExactCaseProgramUptoRow : OpenClaim := { program := "ytjgnmimfihhphaa", sum := "9f7df0b7b90643340ca0f145414722ef8d8a1b219474643c82ab5138729450fb", func := "loop.example/g00830/laws.FnExactCaseProgram", spec := "fnExactCaseProgram", unfollowed := true, recurses := true, apart := false, narrowed := true }
def FnExactCaseProgramUptoSaid : Prop := fnExactCaseProgramUptoRow.holds Try.pinned (OpenSpec.upto fnExactCaseProgramSpec)

/-- 'laws.FnExactBlockProgram', WHERE WHAT IT READS IS OF BULK AT MOST 1048576: true; the input reads as it did. -/
def fnExactBlockProgramUptoRow : OpenClaim := { program := "ytjgnmimfihhphaa", sum := "9f7df0b7b90643340ca0f145414722ef8d8a1b219474643c82ab5138729450fb", func := "loop.example/g00830/laws.FnExactBlockProgram", spec := "fnExactBlockProgram", unfollowed := true, recurses := true, apart := false, narrowed := true }
def FnExactBlockProgramUptoSaid : Prop := fnExactBlockProgramUptoRow.holds Try.pinned (OpenSpec.upto fnExactBlockProgramSpec)

end Rows
end Go.Proofs.Ytjgnmimfihhphaa
