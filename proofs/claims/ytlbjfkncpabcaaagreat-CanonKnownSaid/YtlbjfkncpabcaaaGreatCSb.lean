/-
  The law CanonKnown has no argument. Facts of the program that the row asks for are shown. No condition.
-/
import Derived.Test.YtlbjfkncpabcaaaGreatRows
import Derived.ProofKit
import Derived.OpenShut
namespace Go.Proofs.YtlbjfkncpabcaaaGreat.canonKnown
open Go.ChangeShapes Go.WideShapes Go.ChangeAt Go.RowKit

theorem fact1 : Tryz.pinned.checked.prog.funcNamed Rows.canonKnownRow.func = some 5 := by kernel_rfl
theorem fact2 : joinedFacts Tryz.pinned.checked.prog 5 Tryz.f5 Rows.canonKnownSpec Rows.canonKnownRow = true := by kernel_rfl
end Go.Proofs.YtlbjfkncpabcaaaGreat.canonKnown
