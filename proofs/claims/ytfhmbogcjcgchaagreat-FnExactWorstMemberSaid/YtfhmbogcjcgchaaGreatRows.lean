/-
  No cell of these rows narrows 'for every input' (looked for: loops, veiled, ifaces, maps, wideKeys, modest, calm, conditions, laid).
  DERIVED. THE GIVEN ROWS OF THIS SEAT. 15 by the template 'for every input the law returns true; each argument reads behind the call as it read before'; 0 by the template 'total and deterministic' (their statements: YtfhmbogcjcgchaaGreatTotals.lean).
  GIVEN WITH THE SEED: the statements are not yours to turn. If you find one false, say at which input.
  Laid BY PROGRAM, IN A SANDBOX (cutbox-rows.mjs): the forced cells as the released guide's own fill.sh prints them over the translation 1511b38638077b84… (all of the seat's roots in one cut). By AI agents, Wed Nov 11 2026. No macro, syntax, notation, axiom, sorry.
-/
import Derived.Test.YtfhmbogcjcgchaaGreatChecked
import GoSem.Claim
import GoSem.ClaimJoined
import GoSem.ClaimMapViews
import Derived.JoinedTies
import Derived.KernelRfl
namespace Go.Proofs.YtfhmbogcjcgchaaGreat
/- THE CELL 'sum', in the pinned program and in every row, IS THE sha256 OF THE DUMP (.gsa) THAT YtfhmbogcjcgchaaGreatProg.lean LOADS. Nothing in Lean hashes anything: it is a label: what it is worth is what the hold of that sum in a sandbox is worth. -/
noncomputable def Tryz.pinned : Pinned := { name := "ytfhmbogcjcgchaagreat", sum := "1511b38638077b8433d9eb88c2d10937dd398095267150bf8f4787512036bcce", checked := Tryz.checked }
namespace Rows
def none {H : Type} : Left H := { results := [], args := [] }

/-- 'laws.FnExactIsWithin': WHATEVER THE INPUT: true; the input reads as it did. -/
def fnExactIsWithinSpec : ChangeSpec := { name := "fnExactIsWithin", fn := fun _ => fun
  | [d1, d2, d3] => { results := [.lit (.bool true)], args := [d1, d2, d3] }
  | _ => none }
def fnExactIsWithinRow : OpenClaim := { program := "ytfhmbogcjcgchaagreat", sum := "1511b38638077b8433d9eb88c2d10937dd398095267150bf8f4787512036bcce", func := "loop.example/g00830/laws.FnExactIsWithin", spec := "fnExactIsWithin", unfollowed := true, recurses := true, apart := false }
def FnExactIsWithinSaid : Prop := fnExactIsWithinRow.holds Tryz.pinned (OpenSpec.ofChange fnExactIsWithinSpec)

/-- ITS FALSE NEIGHBOUR: 'it returns false'. Refute it at one input. -/
def fnExactIsWithinWrong : ChangeSpec := { name := "fnExactIsWithin", fn := fun _ => fun
  | [d1, d2, d3] => { results := [.lit (.bool false)], args := [d1, d2, d3] }
  | _ => none }
def FnExactIsWithinWrongFalsely : Prop := fnExactIsWithinRow.holds Tryz.pinned (OpenSpec.ofChange fnExactIsWithinWrong)

/-- 'laws.FnExactWorstMember': WHATEVER THE INPUT: true; the input reads as it did. -/
def fnExactWorstMemberSpec : ChangeSpec := { name := "fnExactWorstMember", fn := fun _ => fun
  | [d1, d2, d3] => { results := [.lit (.bool true)], args := [d1, d2, d3] }
  | _ => none }
def fnExactWorstMemberRow : OpenClaim := { program := "ytfhmbogcjcgchaagreat", sum := "1511b38638077b8433d9eb88c2d10937dd398095267150bf8f4787512036bcce", func := "loop.example/g00830/laws.FnExactWorstMember", spec := "fnExactWorstMember", unfollowed := true, recurses := true, apart := false }
def FnExactWorstMemberSaid : Prop := fnExactWorstMemberRow.holds Tryz.pinned (OpenSpec.ofChange fnExactWorstMemberSpec)

/-- ITS FALSE NEIGHBOUR: 'it returns false'. Refute it at one input. -/
def fnExactWorstMemberWrong : ChangeSpec := { name := "fnExactWorstMember", fn := fun _ => fun
  | [d1, d2, d3] => { results := [.lit (.bool false)], args := [d1, d2, d3] }
  | _ => none }
def FnExactWorstMemberWrongFalsely : Prop := fnExactWorstMemberRow.holds Tryz.pinned (OpenSpec.ofChange fnExactWorstMemberWrong)

/-- 'laws.FnExactKeepsBlock': WHATEVER THE INPUT: true; the input reads as it did. -/
def fnExactKeepsBlockSpec : ChangeSpec := { name := "fnExactKeepsBlock", fn := fun _ => fun
  | [d1, d2, d3] => { results := [.lit (.bool true)], args := [d1, d2, d3] }
  | _ => none }
def fnExactKeepsBlockRow : OpenClaim := { program := "ytfhmbogcjcgchaagreat", sum := "1511b38638077b8433d9eb88c2d10937dd398095267150bf8f4787512036bcce", func := "loop.example/g00830/laws.FnExactKeepsBlock", spec := "fnExactKeepsBlock", unfollowed := true, recurses := true, apart := false }
def FnExactKeepsBlockSaid : Prop := fnExactKeepsBlockRow.holds Tryz.pinned (OpenSpec.ofChange fnExactKeepsBlockSpec)

/-- ITS FALSE NEIGHBOUR: 'it returns false'. Refute it at one input. -/
def fnExactKeepsBlockWrong : ChangeSpec := { name := "fnExactKeepsBlock", fn := fun _ => fun
  | [d1, d2, d3] => { results := [.lit (.bool false)], args := [d1, d2, d3] }
  | _ => none }
def FnExactKeepsBlockWrongFalsely : Prop := fnExactKeepsBlockRow.holds Tryz.pinned (OpenSpec.ofChange fnExactKeepsBlockWrong)

/-- 'laws.FnExactIsForm': WHATEVER THE INPUT: true; the input reads as it did. -/
def fnExactIsFormSpec : ChangeSpec := { name := "fnExactIsForm", fn := fun _ => fun
  | [d1, d2, d3, d4] => { results := [.lit (.bool true)], args := [d1, d2, d3, d4] }
  | _ => none }
def fnExactIsFormRow : OpenClaim := { program := "ytfhmbogcjcgchaagreat", sum := "1511b38638077b8433d9eb88c2d10937dd398095267150bf8f4787512036bcce", func := "loop.example/g00830/laws.FnExactIsForm", spec := "fnExactIsForm", unfollowed := true, recurses := true, apart := false }
def FnExactIsFormSaid : Prop := fnExactIsFormRow.holds Tryz.pinned (OpenSpec.ofChange fnExactIsFormSpec)

/-- ITS FALSE NEIGHBOUR: 'it returns false'. Refute it at one input. -/
def fnExactIsFormWrong : ChangeSpec := { name := "fnExactIsForm", fn := fun _ => fun
  | [d1, d2, d3, d4] => { results := [.lit (.bool false)], args := [d1, d2, d3, d4] }
  | _ => none }
def FnExactIsFormWrongFalsely : Prop := fnExactIsFormRow.holds Tryz.pinned (OpenSpec.ofChange fnExactIsFormWrong)

/-- 'laws.FnExactOverloadedMembers': WHATEVER THE INPUT: true; the input reads as it did. -/
def fnExactOverloadedMembersSpec : ChangeSpec := { name := "fnExactOverloadedMembers", fn := fun _ => fun
  | [d1, d2, d3] => { results := [.lit (.bool true)], args := [d1, d2, d3] }
  | _ => none }
def fnExactOverloadedMembersRow : OpenClaim := { program := "ytfhmbogcjcgchaagreat", sum := "1511b38638077b8433d9eb88c2d10937dd398095267150bf8f4787512036bcce", func := "loop.example/g00830/laws.FnExactOverloadedMembers", spec := "fnExactOverloadedMembers", unfollowed := true, recurses := true, apart := false }
def FnExactOverloadedMembersSaid : Prop := fnExactOverloadedMembersRow.holds Tryz.pinned (OpenSpec.ofChange fnExactOverloadedMembersSpec)

/-- ITS FALSE NEIGHBOUR: 'it returns false'. Refute it at one input. -/
def fnExactOverloadedMembersWrong : ChangeSpec := { name := "fnExactOverloadedMembers", fn := fun _ => fun
  | [d1, d2, d3] => { results := [.lit (.bool false)], args := [d1, d2, d3] }
  | _ => none }
def FnExactOverloadedMembersWrongFalsely : Prop := fnExactOverloadedMembersRow.holds Tryz.pinned (OpenSpec.ofChange fnExactOverloadedMembersWrong)

/-- 'laws.FnExactNeedsOf': WHATEVER THE INPUT: true; the input reads as it did. -/
def fnExactNeedsOfSpec : ChangeSpec := { name := "fnExactNeedsOf", fn := fun _ => fun
  | [d1, d2] => { results := [.lit (.bool true)], args := [d1, d2] }
  | _ => none }
def fnExactNeedsOfRow : OpenClaim := { program := "ytfhmbogcjcgchaagreat", sum := "1511b38638077b8433d9eb88c2d10937dd398095267150bf8f4787512036bcce", func := "loop.example/g00830/laws.FnExactNeedsOf", spec := "fnExactNeedsOf", unfollowed := true, recurses := true, apart := false }
def FnExactNeedsOfSaid : Prop := fnExactNeedsOfRow.holds Tryz.pinned (OpenSpec.ofChange fnExactNeedsOfSpec)

/-- ITS FALSE NEIGHBOUR: 'it returns false'. Refute it at one input. -/
def fnExactNeedsOfWrong : ChangeSpec := { name := "fnExactNeedsOf", fn := fun _ => fun
  | [d1, d2] => { results := [.lit (.bool false)], args := [d1, d2] }
  | _ => none }
def FnExactNeedsOfWrongFalsely : Prop := fnExactNeedsOfRow.holds Tryz.pinned (OpenSpec.ofChange fnExactNeedsOfWrong)

/-- 'laws.FnExactForceSquare': WHATEVER THE INPUT: true; the input reads as it did. -/
def fnExactForceSquareSpec : ChangeSpec := { name := "fnExactForceSquare", fn := fun _ => fun
  | [d1, d2, d3] => { results := [.lit (.bool true)], args := [d1, d2, d3] }
  | _ => none }
def fnExactForceSquareRow : OpenClaim := { program := "ytfhmbogcjcgchaagreat", sum := "1511b38638077b8433d9eb88c2d10937dd398095267150bf8f4787512036bcce", func := "loop.example/g00830/laws.FnExactForceSquare", spec := "fnExactForceSquare", unfollowed := true, recurses := true, apart := false }
def FnExactForceSquareSaid : Prop := fnExactForceSquareRow.holds Tryz.pinned (OpenSpec.ofChange fnExactForceSquareSpec)

/-- ITS FALSE NEIGHBOUR: 'it returns false'. Refute it at one input. -/
def fnExactForceSquareWrong : ChangeSpec := { name := "fnExactForceSquare", fn := fun _ => fun
  | [d1, d2, d3] => { results := [.lit (.bool false)], args := [d1, d2, d3] }
  | _ => none }
def FnExactForceSquareWrongFalsely : Prop := fnExactForceSquareRow.holds Tryz.pinned (OpenSpec.ofChange fnExactForceSquareWrong)

/-- 'laws.FnExactMoveTo': WHATEVER THE INPUT: true; the input reads as it did. -/
def fnExactMoveToSpec : ChangeSpec := { name := "fnExactMoveTo", fn := fun _ => fun
  | [d1, d2] => { results := [.lit (.bool true)], args := [d1, d2] }
  | _ => none }
def fnExactMoveToRow : OpenClaim := { program := "ytfhmbogcjcgchaagreat", sum := "1511b38638077b8433d9eb88c2d10937dd398095267150bf8f4787512036bcce", func := "loop.example/g00830/laws.FnExactMoveTo", spec := "fnExactMoveTo", unfollowed := true, recurses := true, apart := false }
def FnExactMoveToSaid : Prop := fnExactMoveToRow.holds Tryz.pinned (OpenSpec.ofChange fnExactMoveToSpec)

/-- ITS FALSE NEIGHBOUR: 'it returns false'. Refute it at one input. -/
def fnExactMoveToWrong : ChangeSpec := { name := "fnExactMoveTo", fn := fun _ => fun
  | [d1, d2] => { results := [.lit (.bool false)], args := [d1, d2] }
  | _ => none }
def FnExactMoveToWrongFalsely : Prop := fnExactMoveToRow.holds Tryz.pinned (OpenSpec.ofChange fnExactMoveToWrong)

/-- 'laws.FnExactEnergyOf': WHATEVER THE INPUT: true; the input reads as it did. -/
def fnExactEnergyOfSpec : ChangeSpec := { name := "fnExactEnergyOf", fn := fun _ => fun
  | [d1, d2, d3] => { results := [.lit (.bool true)], args := [d1, d2, d3] }
  | _ => none }
def fnExactEnergyOfRow : OpenClaim := { program := "ytfhmbogcjcgchaagreat", sum := "1511b38638077b8433d9eb88c2d10937dd398095267150bf8f4787512036bcce", func := "loop.example/g00830/laws.FnExactEnergyOf", spec := "fnExactEnergyOf", unfollowed := true, recurses := true, apart := false }
def FnExactEnergyOfSaid : Prop := fnExactEnergyOfRow.holds Tryz.pinned (OpenSpec.ofChange fnExactEnergyOfSpec)

/-- ITS FALSE NEIGHBOUR: 'it returns false'. Refute it at one input. -/
def fnExactEnergyOfWrong : ChangeSpec := { name := "fnExactEnergyOf", fn := fun _ => fun
  | [d1, d2, d3] => { results := [.lit (.bool false)], args := [d1, d2, d3] }
  | _ => none }
def FnExactEnergyOfWrongFalsely : Prop := fnExactEnergyOfRow.holds Tryz.pinned (OpenSpec.ofChange fnExactEnergyOfWrong)

/-- 'laws.FnExactGeometricStiffness': WHATEVER THE INPUT: true; the input reads as it did. -/
def fnExactGeometricStiffnessSpec : ChangeSpec := { name := "fnExactGeometricStiffness", fn := fun _ => fun
  | [d1, d2] => { results := [.lit (.bool true)], args := [d1, d2] }
  | _ => none }
def fnExactGeometricStiffnessRow : OpenClaim := { program := "ytfhmbogcjcgchaagreat", sum := "1511b38638077b8433d9eb88c2d10937dd398095267150bf8f4787512036bcce", func := "loop.example/g00830/laws.FnExactGeometricStiffness", spec := "fnExactGeometricStiffness", unfollowed := true, recurses := true, apart := false }
def FnExactGeometricStiffnessSaid : Prop := fnExactGeometricStiffnessRow.holds Tryz.pinned (OpenSpec.ofChange fnExactGeometricStiffnessSpec)

/-- ITS FALSE NEIGHBOUR: 'it returns false'. Refute it at one input. -/
def fnExactGeometricStiffnessWrong : ChangeSpec := { name := "fnExactGeometricStiffness", fn := fun _ => fun
  | [d1, d2] => { results := [.lit (.bool false)], args := [d1, d2] }
  | _ => none }
def FnExactGeometricStiffnessWrongFalsely : Prop := fnExactGeometricStiffnessRow.holds Tryz.pinned (OpenSpec.ofChange fnExactGeometricStiffnessWrong)

/-- 'laws.FnExactDensityMatrix': WHATEVER THE INPUT: true; the input reads as it did. -/
def fnExactDensityMatrixSpec : ChangeSpec := { name := "fnExactDensityMatrix", fn := fun _ => fun
  | [d1, d2] => { results := [.lit (.bool true)], args := [d1, d2] }
  | _ => none }
def fnExactDensityMatrixRow : OpenClaim := { program := "ytfhmbogcjcgchaagreat", sum := "1511b38638077b8433d9eb88c2d10937dd398095267150bf8f4787512036bcce", func := "loop.example/g00830/laws.FnExactDensityMatrix", spec := "fnExactDensityMatrix", unfollowed := true, recurses := true, apart := false }
def FnExactDensityMatrixSaid : Prop := fnExactDensityMatrixRow.holds Tryz.pinned (OpenSpec.ofChange fnExactDensityMatrixSpec)

/-- ITS FALSE NEIGHBOUR: 'it returns false'. Refute it at one input. -/
def fnExactDensityMatrixWrong : ChangeSpec := { name := "fnExactDensityMatrix", fn := fun _ => fun
  | [d1, d2] => { results := [.lit (.bool false)], args := [d1, d2] }
  | _ => none }
def FnExactDensityMatrixWrongFalsely : Prop := fnExactDensityMatrixRow.holds Tryz.pinned (OpenSpec.ofChange fnExactDensityMatrixWrong)

/-- 'laws.FnExactFormOf': WHATEVER THE INPUT: true; the input reads as it did. -/
def fnExactFormOfSpec : ChangeSpec := { name := "fnExactFormOf", fn := fun _ => fun
  | [d1, d2, d3] => { results := [.lit (.bool true)], args := [d1, d2, d3] }
  | _ => none }
def fnExactFormOfRow : OpenClaim := { program := "ytfhmbogcjcgchaagreat", sum := "1511b38638077b8433d9eb88c2d10937dd398095267150bf8f4787512036bcce", func := "loop.example/g00830/laws.FnExactFormOf", spec := "fnExactFormOf", unfollowed := true, recurses := true, apart := false }
def FnExactFormOfSaid : Prop := fnExactFormOfRow.holds Tryz.pinned (OpenSpec.ofChange fnExactFormOfSpec)

/-- ITS FALSE NEIGHBOUR: 'it returns false'. Refute it at one input. -/
def fnExactFormOfWrong : ChangeSpec := { name := "fnExactFormOf", fn := fun _ => fun
  | [d1, d2, d3] => { results := [.lit (.bool false)], args := [d1, d2, d3] }
  | _ => none }
def FnExactFormOfWrongFalsely : Prop := fnExactFormOfRow.holds Tryz.pinned (OpenSpec.ofChange fnExactFormOfWrong)

/-- 'laws.FnExactReducedStiffness': WHATEVER THE INPUT: true; the input reads as it did. -/
def fnExactReducedStiffnessSpec : ChangeSpec := { name := "fnExactReducedStiffness", fn := fun _ => fun
  | [d1, d2] => { results := [.lit (.bool true)], args := [d1, d2] }
  | _ => none }
def fnExactReducedStiffnessRow : OpenClaim := { program := "ytfhmbogcjcgchaagreat", sum := "1511b38638077b8433d9eb88c2d10937dd398095267150bf8f4787512036bcce", func := "loop.example/g00830/laws.FnExactReducedStiffness", spec := "fnExactReducedStiffness", unfollowed := true, recurses := true, apart := false }
def FnExactReducedStiffnessSaid : Prop := fnExactReducedStiffnessRow.holds Tryz.pinned (OpenSpec.ofChange fnExactReducedStiffnessSpec)

/-- ITS FALSE NEIGHBOUR: 'it returns false'. Refute it at one input. -/
def fnExactReducedStiffnessWrong : ChangeSpec := { name := "fnExactReducedStiffness", fn := fun _ => fun
  | [d1, d2] => { results := [.lit (.bool false)], args := [d1, d2] }
  | _ => none }
def FnExactReducedStiffnessWrongFalsely : Prop := fnExactReducedStiffnessRow.holds Tryz.pinned (OpenSpec.ofChange fnExactReducedStiffnessWrong)

/-- 'laws.FnExactIsStable': WHATEVER THE INPUT: true; the input reads as it did. -/
def fnExactIsStableSpec : ChangeSpec := { name := "fnExactIsStable", fn := fun _ => fun
  | [d1, d2] => { results := [.lit (.bool true)], args := [d1, d2] }
  | _ => none }
def fnExactIsStableRow : OpenClaim := { program := "ytfhmbogcjcgchaagreat", sum := "1511b38638077b8433d9eb88c2d10937dd398095267150bf8f4787512036bcce", func := "loop.example/g00830/laws.FnExactIsStable", spec := "fnExactIsStable", unfollowed := true, recurses := true, apart := false }
def FnExactIsStableSaid : Prop := fnExactIsStableRow.holds Tryz.pinned (OpenSpec.ofChange fnExactIsStableSpec)

/-- ITS FALSE NEIGHBOUR: 'it returns false'. Refute it at one input. -/
def fnExactIsStableWrong : ChangeSpec := { name := "fnExactIsStable", fn := fun _ => fun
  | [d1, d2] => { results := [.lit (.bool false)], args := [d1, d2] }
  | _ => none }
def FnExactIsStableWrongFalsely : Prop := fnExactIsStableRow.holds Tryz.pinned (OpenSpec.ofChange fnExactIsStableWrong)

/-- 'laws.FnStiffness': WHATEVER THE INPUT: true; the input reads as it did. -/
def fnStiffnessSpec : ChangeSpec := { name := "fnStiffness", fn := fun _ => fun
  | [d] => { results := [.lit (.bool true)], args := [d] }
  | _ => none }
def fnStiffnessRow : OpenClaim := { program := "ytfhmbogcjcgchaagreat", sum := "1511b38638077b8433d9eb88c2d10937dd398095267150bf8f4787512036bcce", func := "loop.example/g00830/laws.FnStiffness", spec := "fnStiffness", unfollowed := true, recurses := true, apart := false }
def FnStiffnessSaid : Prop := fnStiffnessRow.holds Tryz.pinned (OpenSpec.ofChange fnStiffnessSpec)

/-- ITS FALSE NEIGHBOUR: 'it returns false'. Refute it at one input. -/
def fnStiffnessWrong : ChangeSpec := { name := "fnStiffness", fn := fun _ => fun
  | [d] => { results := [.lit (.bool false)], args := [d] }
  | _ => none }
def FnStiffnessWrongFalsely : Prop := fnStiffnessRow.holds Tryz.pinned (OpenSpec.ofChange fnStiffnessWrong)

/- THE SECOND FORM. 'bulk': how many values and letters a reading holds, each counted each time it is reached (what is shared counts as often as it is met; a slice's spare places count too). A statement '..UptoSaid' is the law's where the arguments, and the package variables that the reading takes, are together of bulk at most 1048576: NARROWER than '..Said'. Prove '..Said' where nothing that the law and all that it calls make is longer than what came in: it says more and counts as full. Else prove '..UptoSaid'. A law counts once. -/
mutual
def uptoBulk {H : Type} : DataW H → Nat
  | .lit (.string bytes) => bytes.length + 1
  | .lit _ => 1
  | .nil => 1
  | .ptr d => uptoBulk d + 1
  | .slice elems spare => uptoBulkAll elems + uptoBulkAll spare + 1
  | .agg parts => uptoBulkAll parts + 1
  | .iface _ d => uptoBulk d + 1
  | .map entries => uptoBulkEntries entries + 1
  | .held _ => 1
def uptoBulkAll {H : Type} : List (DataW H) → Nat
  | [] => 0
  | d :: r => uptoBulk d + uptoBulkAll r
def uptoBulkEntries {H : Type} : List (Lit × DataW H) → Nat
  | [] => 0
  | x :: r => uptoBulkEntry x + uptoBulkEntries r
def uptoBulkEntry {H : Type} : Lit × DataW H → Nat
  | (.string bytes, d) => bytes.length + uptoBulk d + 1
  | (_, d) => uptoBulk d + 1
 end
def uptoSmall : (H : Type) → List (DataW H) → Bool := fun _ ds => decide (uptoBulkAll ds ≤ 1048576)
def OpenSpec.upto (s : _root_.Go.ChangeSpec) : _root_.Go.OpenSpec := { _root_.Go.OpenSpec.ofChange s with cond := some uptoSmall }

/-- 'laws.FnExactIsWithin', WHERE WHAT IT READS IS OF BULK AT MOST 1048576: true; the input reads as it did. -/
def fnExactIsWithinUptoRow : OpenClaim := { program := "ytfhmbogcjcgchaagreat", sum := "1511b38638077b8433d9eb88c2d10937dd398095267150bf8f4787512036bcce", func := "loop.example/g00830/laws.FnExactIsWithin", spec := "fnExactIsWithin", unfollowed := true, recurses := true, apart := false, narrowed := true }
def FnExactIsWithinUptoSaid : Prop := fnExactIsWithinUptoRow.holds Tryz.pinned (OpenSpec.upto fnExactIsWithinSpec)

/-- 'laws.FnExactWorstMember', WHERE WHAT IT READS IS OF BULK AT MOST 1048576: true; the input reads as it did. -/
def fnExactWorstMemberUptoRow : OpenClaim := { program := "ytfhmbogcjcgchaagreat", sum := "1511b38638077b8433d9eb88c2d10937dd398095267150bf8f4787512036bcce", func := "loop.example/g00830/laws.FnExactWorstMember", spec := "fnExactWorstMember", unfollowed := true, recurses := true, apart := false, narrowed := true }
def FnExactWorstMemberUptoSaid : Prop := fnExactWorstMemberUptoRow.holds Tryz.pinned (OpenSpec.upto fnExactWorstMemberSpec)

/-- 'laws.FnExactKeepsBlock', WHERE WHAT IT READS IS OF BULK AT MOST 1048576: true; the input reads as it did. -/
def fnExactKeepsBlockUptoRow : OpenClaim := { program := "ytfhmbogcjcgchaagreat", sum := "1511b38638077b8433d9eb88c2d10937dd398095267150bf8f4787512036bcce", func := "loop.example/g00830/laws.FnExactKeepsBlock", spec := "fnExactKeepsBlock", unfollowed := true, recurses := true, apart := false, narrowed := true }
def FnExactKeepsBlockUptoSaid : Prop := fnExactKeepsBlockUptoRow.holds Tryz.pinned (OpenSpec.upto fnExactKeepsBlockSpec)

/-- 'laws.FnExactIsForm', WHERE WHAT IT READS IS OF BULK AT MOST 1048576: true; the input reads as it did. -/
def fnExactIsFormUptoRow : OpenClaim := { program := "ytfhmbogcjcgchaagreat", sum := "1511b38638077b8433d9eb88c2d10937dd398095267150bf8f4787512036bcce", func := "loop.example/g00830/laws.FnExactIsForm", spec := "fnExactIsForm", unfollowed := true, recurses := true, apart := false, narrowed := true }
def FnExactIsFormUptoSaid : Prop := fnExactIsFormUptoRow.holds Tryz.pinned (OpenSpec.upto fnExactIsFormSpec)

/-- 'laws.FnExactOverloadedMembers', WHERE WHAT IT READS IS OF BULK AT MOST 1048576: true; the input reads as it did. -/
def fnExactOverloadedMembersUptoRow : OpenClaim := { program := "ytfhmbogcjcgchaagreat", sum := "1511b38638077b8433d9eb88c2d10937dd398095267150bf8f4787512036bcce", func := "loop.example/g00830/laws.FnExactOverloadedMembers", spec := "fnExactOverloadedMembers", unfollowed := true, recurses := true, apart := false, narrowed := true }
def FnExactOverloadedMembersUptoSaid : Prop := fnExactOverloadedMembersUptoRow.holds Tryz.pinned (OpenSpec.upto fnExactOverloadedMembersSpec)

/-- 'laws.FnExactNeedsOf', WHERE WHAT IT READS IS OF BULK AT MOST 1048576: true; the input reads as it did. -/
def fnExactNeedsOfUptoRow : OpenClaim := { program := "ytfhmbogcjcgchaagreat", sum := "1511b38638077b8433d9eb88c2d10937dd398095267150bf8f4787512036bcce", func := "loop.example/g00830/laws.FnExactNeedsOf", spec := "fnExactNeedsOf", unfollowed := true, recurses := true, apart := false, narrowed := true }
def FnExactNeedsOfUptoSaid : Prop := fnExactNeedsOfUptoRow.holds Tryz.pinned (OpenSpec.upto fnExactNeedsOfSpec)

/-- 'laws.FnExactForceSquare', WHERE WHAT IT READS IS OF BULK AT MOST 1048576: true; the input reads as it did. -/
def fnExactForceSquareUptoRow : OpenClaim := { program := "ytfhmbogcjcgchaagreat", sum := "1511b38638077b8433d9eb88c2d10937dd398095267150bf8f4787512036bcce", func := "loop.example/g00830/laws.FnExactForceSquare", spec := "fnExactForceSquare", unfollowed := true, recurses := true, apart := false, narrowed := true }
def FnExactForceSquareUptoSaid : Prop := fnExactForceSquareUptoRow.holds Tryz.pinned (OpenSpec.upto fnExactForceSquareSpec)

/-- 'laws.FnExactMoveTo', WHERE WHAT IT READS IS OF BULK AT MOST 1048576: true; the input reads as it did. -/
def fnExactMoveToUptoRow : OpenClaim := { program := "ytfhmbogcjcgchaagreat", sum := "1511b38638077b8433d9eb88c2d10937dd398095267150bf8f4787512036bcce", func := "loop.example/g00830/laws.FnExactMoveTo", spec := "fnExactMoveTo", unfollowed := true, recurses := true, apart := false, narrowed := true }
def FnExactMoveToUptoSaid : Prop := fnExactMoveToUptoRow.holds Tryz.pinned (OpenSpec.upto fnExactMoveToSpec)

/-- 'laws.FnExactEnergyOf', WHERE WHAT IT READS IS OF BULK AT MOST 1048576: true; the input reads as it did. -/
def fnExactEnergyOfUptoRow : OpenClaim := { program := "ytfhmbogcjcgchaagreat", sum := "1511b38638077b8433d9eb88c2d10937dd398095267150bf8f4787512036bcce", func := "loop.example/g00830/laws.FnExactEnergyOf", spec := "fnExactEnergyOf", unfollowed := true, recurses := true, apart := false, narrowed := true }
def FnExactEnergyOfUptoSaid : Prop := fnExactEnergyOfUptoRow.holds Tryz.pinned (OpenSpec.upto fnExactEnergyOfSpec)

/-- 'laws.FnExactGeometricStiffness', WHERE WHAT IT READS IS OF BULK AT MOST 1048576: true; the input reads as it did. -/
def fnExactGeometricStiffnessUptoRow : OpenClaim := { program := "ytfhmbogcjcgchaagreat", sum := "1511b38638077b8433d9eb88c2d10937dd398095267150bf8f4787512036bcce", func := "loop.example/g00830/laws.FnExactGeometricStiffness", spec := "fnExactGeometricStiffness", unfollowed := true, recurses := true, apart := false, narrowed := true }
def FnExactGeometricStiffnessUptoSaid : Prop := fnExactGeometricStiffnessUptoRow.holds Tryz.pinned (OpenSpec.upto fnExactGeometricStiffnessSpec)

/-- 'laws.FnExactDensityMatrix', WHERE WHAT IT READS IS OF BULK AT MOST 1048576: true; the input reads as it did. -/
def fnExactDensityMatrixUptoRow : OpenClaim := { program := "ytfhmbogcjcgchaagreat", sum := "1511b38638077b8433d9eb88c2d10937dd398095267150bf8f4787512036bcce", func := "loop.example/g00830/laws.FnExactDensityMatrix", spec := "fnExactDensityMatrix", unfollowed := true, recurses := true, apart := false, narrowed := true }
def FnExactDensityMatrixUptoSaid : Prop := fnExactDensityMatrixUptoRow.holds Tryz.pinned (OpenSpec.upto fnExactDensityMatrixSpec)

/-- 'laws.FnExactFormOf', WHERE WHAT IT READS IS OF BULK AT MOST 1048576: true; the input reads as it did. -/
def fnExactFormOfUptoRow : OpenClaim := { program := "ytfhmbogcjcgchaagreat", sum := "1511b38638077b8433d9eb88c2d10937dd398095267150bf8f4787512036bcce", func := "loop.example/g00830/laws.FnExactFormOf", spec := "fnExactFormOf", unfollowed := true, recurses := true, apart := false, narrowed := true }
def FnExactFormOfUptoSaid : Prop := fnExactFormOfUptoRow.holds Tryz.pinned (OpenSpec.upto fnExactFormOfSpec)

/-- 'laws.FnExactReducedStiffness', WHERE WHAT IT READS IS OF BULK AT MOST 1048576: true; the input reads as it did. -/
def fnExactReducedStiffnessUptoRow : OpenClaim := { program := "ytfhmbogcjcgchaagreat", sum := "1511b38638077b8433d9eb88c2d10937dd398095267150bf8f4787512036bcce", func := "loop.example/g00830/laws.FnExactReducedStiffness", spec := "fnExactReducedStiffness", unfollowed := true, recurses := true, apart := false, narrowed := true }
def FnExactReducedStiffnessUptoSaid : Prop := fnExactReducedStiffnessUptoRow.holds Tryz.pinned (OpenSpec.upto fnExactReducedStiffnessSpec)

/-- 'laws.FnExactIsStable', WHERE WHAT IT READS IS OF BULK AT MOST 1048576: true; the input reads as it did. -/
def fnExactIsStableUptoRow : OpenClaim := { program := "ytfhmbogcjcgchaagreat", sum := "1511b38638077b8433d9eb88c2d10937dd398095267150bf8f4787512036bcce", func := "loop.example/g00830/laws.FnExactIsStable", spec := "fnExactIsStable", unfollowed := true, recurses := true, apart := false, narrowed := true }
def FnExactIsStableUptoSaid : Prop := fnExactIsStableUptoRow.holds Tryz.pinned (OpenSpec.upto fnExactIsStableSpec)

/-- 'laws.FnStiffness', WHERE WHAT IT READS IS OF BULK AT MOST 1048576: true; the input reads as it did. -/
def fnStiffnessUptoRow : OpenClaim := { program := "ytfhmbogcjcgchaagreat", sum := "1511b38638077b8433d9eb88c2d10937dd398095267150bf8f4787512036bcce", func := "loop.example/g00830/laws.FnStiffness", spec := "fnStiffness", unfollowed := true, recurses := true, apart := false, narrowed := true }
def FnStiffnessUptoSaid : Prop := fnStiffnessUptoRow.holds Tryz.pinned (OpenSpec.upto fnStiffnessSpec)

end Rows
end Go.Proofs.YtfhmbogcjcgchaaGreat
