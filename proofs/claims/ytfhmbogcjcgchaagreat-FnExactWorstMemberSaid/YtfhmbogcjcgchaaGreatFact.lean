/- Closed facts about the loaded program, each by itself (together they take more memory than a build has). No condition. -/
import Derived.Test.YtfhmbogcjcgchaaGreatRows
import Derived.WalkKit
import Derived.ProofKit
import Derived.OpenShut
import Derived.ShutString
import Derived.ChangeOld
import Derived.Below
import Derived.SizedLaws
namespace Go.Proofs.YtfhmbogcjcgchaaGreat
open Go.ChangeShapes Go.WideShapes Go.ChangeAt Go.RowKit

theorem fact_may : Tryz.pinned.checked.prog.mayEnter = true := by kernel_rfl
theorem fact_lift : Tryz.pinned.checked.prog.liftsFinal = Rows.fnExactIsWithinRow.lifted := by kernel_rfl
theorem fact_make : Tryz.pinned.checked.prog.make = some Rows.fnExactIsWithinRow.make := by kernel_rfl

end Go.Proofs.YtfhmbogcjcgchaaGreat
